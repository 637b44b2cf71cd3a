/- THE ENGINE, 7: operations that need no memory. -/
import Derived.Test.YtifoekadjnlhcaaGreatDoorEB
noncomputable section
namespace Go.Proofs.YtifoekadjnlhcaaGreatDoor
open Go.RowKit
set_option linter.unusedVariables false
set_option linter.unusedSimpArgs false
namespace Ev
def asPure : Sem Value → Option Value
  | .pure v => if plainS v then some v else none
  | _ => none
theorem asPure_ok {s : Sem Value} {v : Value} (h : asPure s = some v) : plainS v = true ∧ s = .pure v := by
  cases s <;> simp only [asPure] at h <;> try cases h
  next u =>
    split at h
    · next hp => cases h; exact ⟨hp, rfl⟩
    · cases h
def isC : Operand → Bool
  | .const _ => true
  | _ => false
def eqShape : Value → Bool
  | .bool _ => true
  | .pointer _ => true
  | .slice _ _ _ => true
  | .map _ => true
  | .func _ _ _ => true
  | .nilFunc => true
  | .nilIface => true
  | .iface _ _ => true
  | .agg _ => true
  | _ => false
def guardV (P : Program) (t : TypeId) (c : Bool) : Value → Value → Bool
  | .nilIface, .nilIface => c
  | .agg _, .agg _ => !P.eqGuardType P.depth t
  | _, _ => true
def tokTok (op : BinOp) (n m : Nat) : Option Value :=
  match op with
  | .add => if n % 8 = 2 ∧ m % 8 = 2 ∧ m / 8 < 4294967296 then some (.float .f64 (tokSum n m)) else none
  | .eql => if n = m ∧ (tokKind n).isSome then some (.bool true) else none
  | .neq => if n = m ∧ (tokKind n).isSome then some (.bool false) else none
  | .leq => if n = m ∧ (tokKind n).isSome then some (.bool true) else none
  | .gtr => if n = m ∧ (tokKind n).isSome then some (.bool false) else none
  | _ => none
def tokByte (op : BinOp) (n : Nat) (b : Int) : Option Value :=
  if n % 8 = 7 ∧ 257 ≤ strB (n / 8) ∧ b = (strB (n / 8) - 257 : Nat) then
    match op with
    | .eql => some (.bool false)
    | .neq => some (.bool true)
    | _ => none
  else none
def tokStr (op : BinOp) (n : Nat) (s : ByteArray) : Option Value :=
  if n % 8 = 5 ∧ s.size < strLo (n / 8) then
    match op with
    | .eql => some (.bool false)
    | .neq => some (.bool true)
    | _ => none
  else none
def binV (P : Program) (op : BinOp) (t : TypeId) (c : Bool) (x y : Value) : Option Value :=
  match x, y with
  | .int k a, .int k' b => asPure (Go.binOp op t (.int k a) (.int k' b))
  | .string a, .string b => asPure (Go.binOp op t (.string a) (.string b))
  | .float .f64 n, .int .i64 a => match tokInt op n a with
    | some v => some v
    | none => (tokCmp op n a).map .bool
  | .int .i64 a, .float .f64 n => (tokCmp (flipOp op) n a).map .bool
  | .float .f64 n, .float .f64 m => tokTok op n m
  | .float .f64 n, .int .u8 b => tokByte op n b
  | .float .f64 n, .string s => tokStr op n s
  | x, y =>
    if eqShape x && eqShape y && guardV P t c x y then
      match op with
      | .eql => (eqV P Op.maxDepth t x y).map .bool
      | .neq => (eqV P Op.maxDepth t x y).map fun b => .bool (!b)
      | _ => none
    else none
section
variable {P : Program} {φ : Phi}
theorem eqShape_conc {x X : Value} (h : eqShape x = true) (hx : conc φ x = some X) : eqShape X = true := by
  cases x <;> simp [eqShape] at h
  case bool b => simp [conc] at hx; subst hx; rfl
  case pointer a => cases a with
    | none => simp [conc] at hx; subst hx; rfl
    | some a => obtain ⟨_, a', _, rfl⟩ := conc_ptr hx; rfl
  case slice a n c => cases a with
    | none => simp [conc] at hx; subst hx; rfl
    | some a => obtain ⟨b, a', _, _, rfl⟩ := conc_slice hx; rfl
  case map r => cases r with
    | none => simp [conc] at hx; subst hx; rfl
    | some a => obtain ⟨b, _, rfl⟩ := conc_map hx; rfl
  case func f a b => obtain ⟨f, A, B, _, _, _, rfl⟩ := conc_func hx; rfl
  case nilFunc => simp [conc] at hx; subst hx; rfl
  case nilIface => simp [conc] at hx; subst hx; rfl
  case iface t v => obtain ⟨u, _, rfl⟩ := conc_iface hx; rfl
  case agg cs => obtain ⟨cs⟩ := cs; obtain ⟨l, _, rfl⟩ := conc_agg hx; rfl
theorem binOp_eql {t : TypeId} {X Y : Value} (hX : eqShape X = true) (hY : eqShape Y = true) : Go.binOp .eql t X Y = (do pure (.bool (← Op.equal t X Y))) ∧ Go.binOp .neq t X Y = (do pure (.bool (!(← Op.equal t X Y)))) := by
  cases X <;> simp [eqShape] at hX <;> cases Y <;> simp [eqShape] at hY <;> exact ⟨rfl, rfl⟩
theorem guard_iface {op : BinOp} {t : TypeId} {a b : Operand} (hc : (isC a || isC b) = true) : RunsTo P (eqGuard op t a b .nilIface .nilIface) () := by
  intro w
  cases a <;> cases b <;> simp [isC] at hc <;> cases op <;> rfl
theorem guard_agg {op : BinOp} {t : TypeId} {a b : Operand} {x y : Array Value} (hg : P.eqGuardType P.depth t = false) : RunsTo P (eqGuard op t a b (.agg x) (.agg y)) () := by
  intro w
  have key : (do if !(← program).eqGuardType (← program).depth t then return ()
                 if ← Op.eqGuardIn Op.maxDepth t (.agg x) (.agg y) then unsupported (.noEntry "binop/eql: two nil values of an interface type with methods, in a part of a struct or an array") : Sem Unit).run P w = .ok () w := by
    simp only [program]
    rw [run_bind]
    simp only [Sem.run]
    rw [run_bind]
    simp only [Sem.run, hg]
    rfl
  cases op <;> first | rfl | exact key
def guardFree : Value → Value → Bool
  | .nilIface, .nilIface => false
  | .agg _, .agg _ => false
  | _, _ => true
theorem guard_free {op : BinOp} {t : TypeId} {a b : Operand} {X Y : Value} (h : guardFree X Y = true) : RunsTo P (eqGuard op t a b X Y) () := by
  intro w
  cases X <;> cases Y <;> simp [guardFree] at h <;> cases op <;> rfl
def sameShape : Value → Value → Prop
  | .nilIface, x => x = .nilIface
  | .agg _, x => ∃ l, x = .agg l
  | _, x => x ≠ .nilIface ∧ ∀ l, x ≠ .agg l
theorem conc_shape {x X : Value} (hs : eqShape x = true) (hx : conc φ x = some X) : sameShape x X := by
  cases x <;> simp [eqShape] at hs
  case bool b => simp [conc] at hx; subst hx; exact ⟨by simp, by simp⟩
  case pointer a => cases a with
    | none => simp [conc] at hx; subst hx; exact ⟨by simp, by simp⟩
    | some a => obtain ⟨_, a', _, rfl⟩ := conc_ptr hx; exact ⟨by simp, by simp⟩
  case slice a n c => cases a with
    | none => simp [conc] at hx; subst hx; exact ⟨by simp, by simp⟩
    | some a => obtain ⟨b, a', _, _, rfl⟩ := conc_slice hx; exact ⟨by simp, by simp⟩
  case map r => cases r with
    | none => simp [conc] at hx; subst hx; exact ⟨by simp, by simp⟩
    | some a => obtain ⟨b, _, rfl⟩ := conc_map hx; exact ⟨by simp, by simp⟩
  case func f a b => obtain ⟨f, A, B, _, _, _, rfl⟩ := conc_func hx; exact ⟨by simp, by simp⟩
  case nilFunc => simp [conc] at hx; subst hx; exact ⟨by simp, by simp⟩
  case nilIface => simp [conc] at hx; subst hx; rfl
  case iface t v => obtain ⟨u, _, rfl⟩ := conc_iface hx; exact ⟨by simp, by simp⟩
  case agg cs => obtain ⟨cs⟩ := cs; obtain ⟨l, _, rfl⟩ := conc_agg hx; exact ⟨_, rfl⟩
theorem guard_run {op : BinOp} {t : TypeId} {a b : Operand} {x y X Y : Value} (hg : guardV P t (isC a || isC b) x y = true) (hsx : eqShape x = true) (hsy : eqShape y = true) (hx : conc φ x = some X) (hy : conc φ y = some Y) : RunsTo P (eqGuard op t a b X Y) () := by
  have h1 := conc_shape hsx hx
  have h2 := conc_shape hsy hy
  unfold guardV at hg
  split at hg
  · cases h1; cases h2; exact guard_iface hg
  · obtain ⟨l, rfl⟩ := h1; obtain ⟨l', rfl⟩ := h2; exact guard_agg (by simpa using hg)
  · next n1 n2 =>
    refine guard_free ?_
    cases x <;> simp [eqShape] at hsx <;> cases y <;> simp [eqShape] at hsy <;> simp only [sameShape] at h1 h2
    all_goals first
      | (exact (n1 rfl rfl).elim)
      | (exact (n2 _ _ rfl rfl).elim)
      | (exact absurd rfl n1)
      | (exact absurd rfl (n2 _ _ rfl))
      | (subst h1; cases Y <;> first | rfl | (exact absurd rfl h2.1) | (obtain ⟨_, e⟩ := h2; cases e))
      | (obtain ⟨_, rfl⟩ := h1; cases Y <;> first | rfl | (exact absurd rfl (h2.2 _)) | cases h2)
      | (cases X <;> first | rfl | (exact absurd rfl h1.1) | (exact absurd rfl (h1.2 _)))
theorem eqGuard_int {op : BinOp} {t : TypeId} {a b : Operand} {k k' : IntKind} {m c : Int} (w : World) : (eqGuard op t a b (.int k m) (.int k' c)).run P w = .ok () w := by unfold eqGuard; split <;> rfl
theorem tokL_ok {op : BinOp} {t : TypeId} {a b : Operand} {n : Nat} {c : Int} {v X Y : Value} (h : (tokCmp op n c).map Value.bool = some v) (hx : conc φ (.float .f64 n) = some X) (hy : conc φ (.int .i64 c) = some Y) :
    ∃ V, conc φ v = some V ∧ RunsTo P (do eqGuard op t a b X Y; Go.binOp op t X Y) V := by
  cases hc : tokCmp op n c with
  | none => rw [hc] at h; cases h
  | some r =>
    rw [hc] at h; cases h
    simp only [conc, Option.some.injEq] at hy; subst hy
    obtain ⟨m, rfl, e⟩ := tokCmp_ok hc (conc_tok hx) t
    exact ⟨.bool r, rfl, fun w => by rw [bind_ok (eqGuard_int w), e]; rfl⟩
theorem tokR_ok {op : BinOp} {t : TypeId} {a b : Operand} {n : Nat} {c : Int} {v X Y : Value} (h : (tokCmp (flipOp op) n c).map Value.bool = some v) (hx : conc φ (.int .i64 c) = some X) (hy : conc φ (.float .f64 n) = some Y) :
    ∃ V, conc φ v = some V ∧ RunsTo P (do eqGuard op t a b X Y; Go.binOp op t X Y) V := by
  cases hc : tokCmp (flipOp op) n c with
  | none => rw [hc] at h; cases h
  | some r =>
    rw [hc] at h; cases h
    simp only [conc, Option.some.injEq] at hx; subst hx
    obtain ⟨m, rfl, e⟩ := tokFlip_ok hc (conc_tok hy) t
    exact ⟨.bool r, rfl, fun w => by rw [bind_ok (eqGuard_int w), e]; rfl⟩
theorem conc_of_tok {n : Nat} {k : IntKind} {m : Int} (h : tok φ.env n = some (.int k m)) : conc φ (.float .f64 n) = some (.int k m) := by
  simp only [conc, h]; rfl
theorem tokA_ok {t : TypeId} {a b : Operand} {n m : Nat} {X Y : Value} (h1 : n % 8 = 2) (h2 : m % 8 = 2) (h3 : m / 8 < 4294967296) (hx : tok φ.env n = some X) (hy : tok φ.env m = some Y) :
    ∃ V, conc φ (.float .f64 (tokSum n m)) = some V ∧ RunsTo P (do eqGuard .add t a b X Y; Go.binOp .add t X Y) V := by
  obtain ⟨c, d, rfl, rfl, e⟩ := tok_sum h1 h2 h3 hx hy
  exact ⟨_, conc_of_tok e, fun w => by rw [bind_ok (eqGuard_int w), cmp_add]; rfl⟩
theorem tokT_ok {op : BinOp} {t : TypeId} {a b : Operand} {n m : Nat} {v X Y : Value} (h : tokTok op n m = some v) (hx : conc φ (.float .f64 n) = some X) (hy : conc φ (.float .f64 m) = some Y) :
    ∃ V, conc φ v = some V ∧ RunsTo P (do eqGuard op t a b X Y; Go.binOp op t X Y) V := by
  have hx := conc_tok hx
  have hy := conc_tok hy
  unfold tokTok at h
  split at h
  · split at h
    · next hc =>
      rw [← Option.some.inj h]
      exact tokA_ok hc.1 hc.2.1 hc.2.2 hx hy
    · cases h
  · split at h
    · next hc =>
      cases h
      obtain ⟨rfl, hk⟩ := hc
      obtain ⟨k, hk⟩ := Option.isSome_iff_exists.1 hk
      obtain ⟨c, rfl⟩ := tok_int hk hx
      rw [hx] at hy; cases hy
      exact ⟨.bool true, rfl, fun w => by rw [bind_ok (eqGuard_int w), cmp_eql, decide_eq_true rfl]; rfl⟩
    · cases h
  · split at h
    · next hc =>
      cases h
      obtain ⟨rfl, hk⟩ := hc
      obtain ⟨k, hk⟩ := Option.isSome_iff_exists.1 hk
      obtain ⟨c, rfl⟩ := tok_int hk hx
      rw [hx] at hy; cases hy
      exact ⟨.bool false, rfl, fun w => by rw [bind_ok (eqGuard_int w), cmp_neq, decide_eq_true rfl]; rfl⟩
    · cases h
  · split at h
    · next hc =>
      cases h
      obtain ⟨rfl, hk⟩ := hc
      obtain ⟨k, hk⟩ := Option.isSome_iff_exists.1 hk
      obtain ⟨c, rfl⟩ := tok_int hk hx
      rw [hx] at hy; cases hy
      exact ⟨.bool true, rfl, fun w => by rw [bind_ok (eqGuard_int w), cmp_leq, decide_eq_true (Int.le_refl c)]; rfl⟩
    · cases h
  · split at h
    · next hc =>
      cases h
      obtain ⟨rfl, hk⟩ := hc
      obtain ⟨k, hk⟩ := Option.isSome_iff_exists.1 hk
      obtain ⟨c, rfl⟩ := tok_int hk hx
      rw [hx] at hy; cases hy
      exact ⟨.bool false, rfl, fun w => by rw [bind_ok (eqGuard_int w), cmp_gtr, decide_eq_false (Int.lt_irrefl c)]; rfl⟩
    · cases h
  · cases h
theorem wrap_in {m : Int} (h1 : -9223372036854775808 ≤ m) (h2 : m ≤ 9223372036854775807) : IntKind.i64.wrap m = m := by
  unfold IntKind.wrap
  simp [IntKind.bits, IntKind.signed]
  omega
theorem tokI_ok {op : BinOp} {t : TypeId} {a b : Operand} {n : Nat} {c : Int} {v X Y : Value} (h : tokInt op n c = some v) (hx : conc φ (.float .f64 n) = some X) (hy : conc φ (.int .i64 c) = some Y) :
    ∃ V, conc φ v = some V ∧ RunsTo P (do eqGuard op t a b X Y; Go.binOp op t X Y) V := by
  simp only [conc, Option.some.injEq] at hy; subst hy
  unfold tokInt at h
  split at h
  · next hs =>
    have ho : op = .sub := by cases op <;> first | rfl | cases hs
    subst ho
    unfold tokSub at h
    split at h
    · next a' =>
      split at h
      · next hc =>
        cases h
        obtain ⟨h4, h1, h2, h3, hh⟩ := hc
        obtain ⟨m, rfl, hl, hr, e⟩ := tok_sub h4 h1 h2 h3 (conc_tok hx)
        refine ⟨_, conc_of_tok e, fun w => ?_⟩
        have hlo : (a' : Int) ≤ tokLo (n / 8) + 9223372036854775808 := by unfold tokLo; omega
        rw [bind_ok (eqGuard_int w), cmp_sub, wrap_in (by simp only [Int.ofNat_eq_natCast]; omega) (by simp only [Int.ofNat_eq_natCast]; omega)]; rfl
      · cases h
    · cases h
  · cases h
theorem eqGuard_str {op : BinOp} {t : TypeId} {a b : Operand} {m c : ByteArray} (w : World) : (eqGuard op t a b (.string m) (.string c)).run P w = .ok () w := by unfold eqGuard; split <;> rfl
theorem tok_seven {env : Nat → Option Value} {n : Nat} {X : Value} (h : n % 8 = 7) (hx : tok env n = some X) : ∃ s b, strOk (n / 8) s ∧ s[0]? = some b ∧ X = .int .u8 b.toNat := by
  unfold tok at hx
  rw [if_neg (by omega), if_neg (by omega), if_neg (by omega), if_neg (by omega), if_neg (by omega), if_neg (by omega), if_neg (by omega)] at hx
  cases hi : strAt env (n / 8) with
  | none => rw [hi] at hx; cases hx
  | some s =>
    rw [hi] at hx
    have hx : (s[0]?).map (fun b => Value.int .u8 b.toNat) = some X := hx
    cases hb : s[0]? with
    | none => rw [hb] at hx; cases hx
    | some b => rw [hb] at hx; cases hx; exact ⟨s, b, strAt_ok hi, hb, rfl⟩
theorem tokB_ok {op : BinOp} {t : TypeId} {a b : Operand} {n : Nat} {c : Int} {v X Y : Value} (h : tokByte op n c = some v) (hx : conc φ (.float .f64 n) = some X) (hy : conc φ (.int .u8 c) = some Y) :
    ∃ V, conc φ v = some V ∧ RunsTo P (do eqGuard op t a b X Y; Go.binOp op t X Y) V := by
  simp only [conc, Option.some.injEq] at hy; subst hy
  unfold tokByte at h
  split at h
  · next hc =>
    obtain ⟨h1, h2, h3⟩ := hc
    obtain ⟨s, d, ⟨_, _, _, hn⟩, hb, rfl⟩ := tok_seven h1 (conc_tok hx)
    have hne := hn h2 d hb
    have hd : ¬ ((d.toNat : Nat) : Int) = c := by rw [h3]; exact fun e => hne (Int.ofNat.inj e)
    split at h
    · cases h
      exact ⟨.bool false, rfl, fun w => by rw [bind_ok (eqGuard_int w), cmp_eql, decide_eq_false hd]; rfl⟩
    · cases h
      exact ⟨.bool true, rfl, fun w => by rw [bind_ok (eqGuard_int w), cmp_neq, decide_eq_false hd]; rfl⟩
    · cases h
  · cases h
theorem str_eql (t : TypeId) (a b : ByteArray) : Go.binOp .eql t (.string a) (.string b) = .pure (.bool (a.toList == b.toList)) := by simp [Go.binOp, Op.stringOp]; rfl
theorem str_neq (t : TypeId) (a b : ByteArray) : Go.binOp .neq t (.string a) (.string b) = .pure (.bool (!(a.toList == b.toList))) := by simp [Go.binOp, Op.stringOp]; rfl
theorem tokS_ok {op : BinOp} {t : TypeId} {a b : Operand} {n : Nat} {c : ByteArray} {v X Y : Value} (h : tokStr op n c = some v) (hx : conc φ (.float .f64 n) = some X) (hy : conc φ (.string c) = some Y) :
    ∃ V, conc φ v = some V ∧ RunsTo P (do eqGuard op t a b X Y; Go.binOp op t X Y) V := by
  simp only [conc, Option.some.injEq] at hy; subst hy
  unfold tokStr at h
  split at h
  · next hc =>
    obtain ⟨s, ⟨hlo, _, _, _⟩, rfl, _⟩ := tok_str hc.1 (conc_tok hx)
    have hd1 : (s.toList == c.toList) = false := by
      cases hb : s.toList == c.toList with
      | false => rfl
      | true =>
        have e : s.toList = c.toList := eq_of_beq hb
        rw [ByteArray.toList_eq, ByteArray.toList_eq] at e
        have e2 : s.size = c.size := congrArg List.length e
        omega
    split at h
    · cases h
      exact ⟨.bool false, rfl, fun w => by rw [bind_ok (eqGuard_str w), str_eql, hd1]; rfl⟩
    · cases h
      exact ⟨.bool true, rfl, fun w => by rw [bind_ok (eqGuard_str w), str_neq, hd1]; rfl⟩
    · cases h
  · cases h
theorem binV_ok {op : BinOp} {t : TypeId} {a b : Operand} {x y v X Y : Value} (h : binV P op t (isC a || isC b) x y = some v) (hx : conc φ x = some X) (hy : conc φ y = some Y) :
    ∃ V, conc φ v = some V ∧ RunsTo P (do eqGuard op t a b X Y; Go.binOp op t X Y) V := by
  unfold binV at h
  split at h
  · next k m k' n =>
    simp [conc] at hx hy; subst hx hy
    obtain ⟨h1, h2⟩ := asPure_ok h
    refine ⟨v, conc_plainS h1, fun w => ?_⟩
    have hg : (eqGuard op t a b (.int k m) (.int k' n)).run P w = .ok () w := by unfold eqGuard; split <;> rfl
    rw [bind_ok hg, h2]; rfl
  · next m n =>
    simp [conc] at hx hy; subst hx hy
    obtain ⟨h1, h2⟩ := asPure_ok h
    refine ⟨v, conc_plainS h1, fun w => ?_⟩
    have hg : (eqGuard op t a b (.string m) (.string n)).run P w = .ok () w := by unfold eqGuard; split <;> rfl
    rw [bind_ok hg, h2]; rfl
  · split at h
    · next hI => cases h; exact tokI_ok hI hx hy
    · exact tokL_ok h hx hy
  · exact tokR_ok h hx hy
  · exact tokT_ok h hx hy
  · exact tokB_ok h hx hy
  · exact tokS_ok h hx hy
  · split at h
    · next hs =>
      simp only [Bool.and_eq_true] at hs
      obtain ⟨⟨h1, h2⟩, h3⟩ := hs
      have hX := eqShape_conc h1 hx
      have hY := eqShape_conc h2 hy
      have hg := guard_run (op := op) h3 h1 h2 hx hy
      obtain ⟨e1, e2⟩ := binOp_eql (t := t) hX hY
      split at h
      · cases he : eqV P Op.maxDepth t x y with
        | none => rw [he] at h; cases h
        | some r =>
          rw [he] at h; cases h
          have := eqV_ok _ _ _ _ _ _ _ he hx hy
          refine ⟨.bool r, rfl, fun w => ?_⟩
          rw [bind_ok (hg w), e1]
          unfold Op.equal
          rw [bind_ok (this w)]; rfl
      · cases he : eqV P Op.maxDepth t x y with
        | none => rw [he] at h; cases h
        | some r =>
          rw [he] at h; cases h
          have := eqV_ok _ _ _ _ _ _ _ he hx hy
          refine ⟨.bool (!r), rfl, fun w => ?_⟩
          rw [bind_ok (hg w), e2]
          unfold Op.equal
          rw [bind_ok (this w)]; rfl
      · cases h
    · cases h
def unV (op : UnOp) (x : Value) : Option Value := if plainS x then asPure (Op.unary op x) else none
theorem unV_ok {op : UnOp} {x v X : Value} (h : unV op x = some v) (hx : conc φ x = some X) : ∃ V, conc φ v = some V ∧ RunsTo P (Op.unary op X) V := by
  unfold unV at h
  split at h
  · next hp =>
    rw [conc_plainS hp] at hx; cases hx
    obtain ⟨h1, h2⟩ := asPure_ok h
    exact ⟨v, conc_plainS h1, fun w => by rw [h2]; rfl⟩
  · cases h
def convP (P : Program) (src dst : TypeId) (x : Value) : Option Value :=
  match P.underlying src, P.underlying dst, x with
  | some _, some (.int k), .int k' n => asPure (Conv.intToInt k n)
  | some _, some .string, .string s => some (.string s)
  | some _, some (.int .i64), .float .f64 n => if n % 8 = 1 then some (.float .f64 (n + 1)) else none
  | _, _, _ => none
theorem convP_ok {src dst : TypeId} {x v X : Value} (h : convP P src dst x = some v) (hx : conc φ x = some X) : ∃ V, conc φ v = some V ∧ RunsTo P (Go.convert src dst X) V := by
  unfold convP at h
  split at h
  · next s k k' n h1 h2 =>
    simp [conc] at hx; subst hx
    obtain ⟨g1, g2⟩ := asPure_ok h
    refine ⟨v, conc_plainS g1, fun w => ?_⟩
    unfold Go.convert
    rw [bind_ok (underlying_run h1), bind_ok (underlying_run h2)]
    show (Conv.intToInt k n).run P w = _
    rw [g2]; rfl
  · next s k h1 h2 =>
    cases h
    simp [conc] at hx; subst hx
    refine ⟨_, rfl, fun w => ?_⟩
    unfold Go.convert
    rw [bind_ok (underlying_run h1), bind_ok (underlying_run h2)]
    rfl
  · next s n h1 h2 =>
    split at h
    · next hc =>
      cases h
      obtain ⟨m, rfl, e⟩ := tok_conv hc (conc_tok hx)
      refine ⟨_, by simp only [conc, e]; rfl, fun w => ?_⟩
      unfold Go.convert
      rw [bind_ok (underlying_run h1), bind_ok (underlying_run h2)]
      rfl
    · cases h
  · cases h
theorem concA_add {a A : Addr} (hs : a.spot = none) (h : concA φ a = some A) (n : Nat) : concA φ (a.add n) = some (A.add n) ∧ (a.add n).spot = none := by
  obtain ⟨b, o, s⟩ := a
  simp at hs; subst hs
  rw [add_off]
  refine ⟨?_, rfl⟩
  unfold concA at *
  simp only at *
  cases hb : φ.at_ b with
  | none => rw [hb] at h; cases h
  | some B => rw [hb] at h; cases h; rw [add_off]; simp [Nat.add_assoc]
theorem conc_ptr_mk {a A : Addr} (hs : a.spot = none) (h : concA φ a = some A) : conc φ (.pointer (some a)) = some (.pointer (some A)) := by
  simp only [conc]; rw [if_neg (by simp [hs]), h]; rfl
def fieldAddrV (P : Program) (s : TypeId) (x : Value) (f : Nat) : Option Value :=
  match P.underlying s, x with
  | some (.struct fs), .pointer (some a) => match fs.toList[f]? with
    | some fd => match tSize P fd.type with
      | some (_ + 1) => some (.pointer (some (a.add fd.offset)))
      | _ => none
    | none => none
  | _, _ => none
theorem fieldAddrV_ok {s : TypeId} {x v X : Value} {f : Nat} (h : fieldAddrV P s x f = some v) (hx : conc φ x = some X) : ∃ V, conc φ v = some V ∧ RunsTo P (Instr.fieldAt s X f) V := by
  unfold fieldAddrV at h
  split at h
  · next fs a hu =>
    split at h
    · next fd hf =>
      split at h
      · next n hn =>
        cases h
        obtain ⟨hs, A, hA, rfl⟩ := conc_ptr hx
        obtain ⟨g1, g2⟩ := concA_add hs hA fd.offset
        refine ⟨_, conc_ptr_mk g2 g1, fun w => ?_⟩
        unfold Instr.fieldAt
        have hf' : fs[f]? = some fd := by simpa using hf
        rw [bind_ok (underlying_run hu)]
        simp only [hf']
        rw [bind_ok (show (Instr.sureAddr (.pointer (some A))).run P w = .ok A w from rfl)]
        have e : (fieldPlace A fd).run P w = .ok (A.add fd.offset) w := by
          unfold fieldPlace
          rw [bind_ok (sizeOf_run hn)]
          simp only [Nat.add_one_ne_zero, if_false]; rfl
        rw [bind_ok e]; rfl
      · cases h
    · cases h
  · cases h
def indexAddrV (P : Program) (t : TypeId) (x ix : Value) : Option Value :=
  match ix with
  | .int _ i => match P.underlying t, x with
    | some (.array n e), .pointer (some a) => match tSize P e with
      | some sz => if 0 ≤ i ∧ i < n then some (.pointer (some (a.add (i.toNat * sz)))) else none
      | none => none
    | some (.slice e), .slice (some a) n _ => match tSize P e with
      | some sz => if a.spot.isNone ∧ 0 ≤ i ∧ i < n then some (.pointer (some (a.add (i.toNat * sz)))) else none
      | none => none
    | _, _ => none
  | _ => none
theorem indexAddrV_ok {t : TypeId} {x ix v X I : Value} (h : indexAddrV P t x ix = some v) (hx : conc φ x = some X) (hi : conc φ ix = some I) : ∃ V, conc φ v = some V ∧ RunsTo P (Instr.indexAt t X I) V := by
  unfold indexAddrV at h
  split at h
  · next k i =>
    simp [conc] at hi; subst hi
    split at h
    · next n e a hu =>
      split at h
      · next sz hsz =>
        split at h
        · next hb =>
          cases h
          obtain ⟨hs, A, hA, rfl⟩ := conc_ptr hx
          obtain ⟨g1, g2⟩ := concA_add hs hA (i.toNat * sz)
          refine ⟨_, conc_ptr_mk g2 g1, fun w => ?_⟩
          unfold Instr.indexAt
          rw [bind_ok (show (asIntOf (.int k i)).run P w = .ok (k, i) w from rfl), bind_ok (underlying_run hu)]
          simp only []
          rw [bind_ok (show (Instr.sureAddr (.pointer (some A))).run P w = .ok A w from rfl), bind_ok (run_pure P _ w), bind_ok (underlying_run hu)]
          simp only [if_pos hb]
          rw [bind_ok (sizeOf_run hsz)]; rfl
        · cases h
      · cases h
    · next e a n c hu =>
      split at h
      · next sz hsz =>
        split at h
        · next hb =>
          cases h
          obtain ⟨hs, hb⟩ := hb
          obtain ⟨B, A, _, hA, rfl⟩ := conc_slice hx
          obtain ⟨g1, g2⟩ := concA_add (by simpa using hs) hA (i.toNat * sz)
          refine ⟨_, conc_ptr_mk g2 g1, fun w => ?_⟩
          unfold Instr.indexAt
          rw [bind_ok (show (asIntOf (.int k i)).run P w = .ok (k, i) w from rfl), bind_ok (underlying_run hu)]
          simp only []
          rw [bind_ok (run_pure P _ w), bind_ok (underlying_run hu)]
          simp only [if_pos hb]
          rw [bind_ok (sizeOf_run hsz)]; rfl
        · cases h
      · cases h
    · cases h
  · cases h
def indexV (P : Program) (t : TypeId) (x ix : Value) : Option Value :=
  match ix with
  | .int _ i => match P.underlying t, x with
    | some (.array n e), .agg ⟨cs⟩ => match tSize P e with
      | some sz => if 0 ≤ i ∧ i < n then partV P e cs (i.toNat * sz) else none
      | none => none
    | some .string, .string s => if 0 ≤ i then (match nthK s.data.toList i.toNat with | some b => some (.int .u8 b.toNat) | none => none) else none
    | some .string, .float .f64 n => if n % 8 = 5 ∧ i = 0 ∧ 1 ≤ strLo (n / 8) then (if 1 ≤ strB (n / 8) ∧ strB (n / 8) ≤ 256 then some (.int .u8 (strB (n / 8) - 1 : Nat)) else some (.float .f64 (n + 2))) else none
    | _, _ => none
  | _ => none
theorem indexV_ok {t : TypeId} {x ix v X I : Value} (h : indexV P t x ix = some v) (hx : conc φ x = some X) (hi : conc φ ix = some I) : ∃ V, conc φ v = some V ∧ RunsTo P (Instr.index t X I) V := by
  unfold indexV at h
  split at h
  · next k i =>
    simp [conc] at hi; subst hi
    split at h
    · next n e cs hu =>
      split at h
      · next sz hsz =>
        split at h
        · next hb =>
          obtain ⟨l, hl, rfl⟩ := conc_agg hx
          obtain ⟨V, g1, g2⟩ := partV_ok h hl
          refine ⟨V, g1, fun w => ?_⟩
          unfold Instr.index
          rw [bind_ok (show (asIntOf (.int k i)).run P w = .ok (k, i) w from rfl), bind_ok (underlying_run hu)]
          simp only [if_pos hb]
          rw [bind_ok (sizeOf_run hsz)]; exact g2 w
        · cases h
      · cases h
    · next s hu =>
      split at h
      · next hb =>
        simp [conc] at hx; subst hx
        rw [nthB] at h
        cases hs : s[i.toNat]? with
        | none => rw [hs] at h; cases h
        | some b =>
          rw [hs] at h; cases h
          refine ⟨_, rfl, fun w => ?_⟩
          unfold Instr.index
          rw [bind_ok (show (asIntOf (.int k i)).run P w = .ok (k, i) w from rfl), bind_ok (underlying_run hu)]
          simp only [if_pos hb, hs]; rfl
      · cases h
    · next n hu =>
      split at h
      · next hc =>
        obtain ⟨h1, rfl, h3⟩ := hc
        obtain ⟨s, ⟨hlo, _, hb1, _⟩, rfl, hat⟩ := tok_str h1 (conc_tok hx)
        have hlt : 0 < s.size := by omega
        obtain ⟨b, hb⟩ : ∃ b, s[0]? = some b := ⟨s[0], by simp [hlt]⟩
        have hrun : ∀ w, (Instr.index t (.string s) (.int k 0)).run P w = .ok (.int .u8 b.toNat) w := fun w => by
          unfold Instr.index
          rw [bind_ok (show (asIntOf (.int k 0)).run P w = .ok (k, 0) w from rfl), bind_ok (underlying_run hu)]
          have hb' : s[(0 : Int).toNat]? = some b := hb
          simp only [if_pos (show (0 : Int) ≤ 0 by omega), hb']; rfl
        split at h
        · next hr =>
          rw [← Option.some.inj h]
          exact ⟨.int .u8 b.toNat, by rw [← hb1 hr.1 hr.2 b hb]; rfl, hrun⟩
        · rw [← Option.some.inj h]
          exact ⟨.int .u8 b.toNat, conc_of_tok (tok_first h1 hat hb), hrun⟩
      · cases h
    · cases h
  · cases h
def extractV (x : Value) (i : Nat) : Option Value := match x with
  | .tuple ⟨l⟩ => nthK l i
  | _ => none
theorem extractV_ok {x v X : Value} {i : Nat} (h : extractV x i = some v) (hx : conc φ x = some X) : ∃ V, conc φ v = some V ∧ RunsTo P (Instr.extract X i) V := by
  unfold extractV at h
  split at h
  · rw [nthK_eq] at h
    obtain ⟨l, hl, rfl⟩ := conc_tuple hx
    obtain ⟨y, h1, h2⟩ := concL_get hl _ _ h
    refine ⟨y, h2, fun w => ?_⟩
    unfold Instr.extract
    simp only [List.getElem?_toArray, h1]; rfl
  · cases h
end
end Ev
end Go.Proofs.YtifoekadjnlhcaaGreatDoor
noncomputable section
namespace Go.Proofs.YtifoekadjnlhcaaGreatDoor
open Go.RowKit
set_option linter.unusedVariables false
set_option linter.unusedSimpArgs false
namespace Ev
def bndV (v : Value) (y : Nat) : Option Nat := match v with
  | .int _ i => if 0 ≤ i ∧ i ≤ y then some i.toNat else none
  | _ => none
def boundsV (len cap : Nat) (lo hi mx : Option Value) : Option (Nat × Nat × Nat) :=
  match (match mx with | some v => bndV v cap | none => some cap) with
  | none => none
  | some m => match (match hi, mx with | some v, _ => bndV v m | none, none => some len | none, some _ => none) with
    | none => none
    | some h => match (match lo with | some v => bndV v h | none => some 0) with
      | none => none
      | some l => some (l, h, m)
section
variable {P : Program} {φ : Phi}
theorem bnd_run {v : Value} {y i : Nat} {c : BoundsCode} (h : bndV v y = some i) : RunsTo P (Instr.sliceBound v y c) i ∧ i ≤ y := by
  unfold bndV at h
  split at h
  · next k n =>
    split at h
    · next hb =>
      cases h
      refine ⟨fun w => ?_, by omega⟩
      unfold Instr.sliceBound
      rw [bind_ok (show (asIntOf (.int k n)).run P w = .ok (k, n) w from rfl)]
      simp only [if_pos hb]; rfl
    · cases h
  · cases h
theorem bnd_more {v : Value} {y y' i : Nat} (h : bndV v y = some i) (hy : y ≤ y') : bndV v y' = some i := by
  unfold bndV at *
  split at h
  · split at h
    · next hb => rw [if_pos ⟨hb.1, by omega⟩]; exact h
    · cases h
  · cases h
theorem bounds_run {b : Bool} {len cap : Nat} {lo hi mx : Option Value} {l h m : Nat} (hb : boundsV len cap lo hi mx = some (l, h, m)) : RunsTo P (Instr.sliceBounds b len cap lo hi mx) (l, h, m) ∧ m ≤ cap ∧ l ≤ h ∧ (hi.isSome = true → h ≤ m) ∧ (mx = none → m = cap) ∧ (hi = none → h = len) := by
  unfold boundsV at hb
  split at hb
  · cases hb
  · next m' hm =>
    split at hb
    · cases hb
    · next h' hh =>
      split at hb
      · cases hb
      · next l' hl =>
        cases hb
        have h1 : ∀ c, RunsTo P (match mx with | some v => Instr.sliceBound v cap c | none => pure cap) m ∧ m ≤ cap := by
          intro c
          cases mx with
          | none => cases hm; exact ⟨fun w => rfl, Nat.le_refl _⟩
          | some v => exact bnd_run hm
        have h2 : (hi.isSome = true → h ≤ m) ∧ (hi = none → h = len) := by
          cases hi with
          | none => cases mx <;> simp at hh; exact ⟨by simp, fun _ => hh.symm⟩
          | some v => exact ⟨fun _ => (bnd_run (P := P) (c := .index) (by simpa using hh)).2, by simp⟩
        have h3 : l ≤ h := by
          cases lo with
          | none => cases hl; exact Nat.zero_le _
          | some v => exact (bnd_run (P := P) (c := .index) hl).2
        refine ⟨fun w => ?_, (h1 .index).2, h3, h2.1, fun e => by subst e; cases hm; rfl, h2.2⟩
        unfold Instr.sliceBounds
        cases mx with
        | none =>
          cases hm
          simp only []
          rw [bind_ok (run_pure P _ w)]
          cases hi with
          | none =>
            simp at hh; subst hh
            simp only []
            rw [bind_ok (run_pure P _ w)]
            cases lo with
            | none => cases hl; rfl
            | some v => simp only []; rw [bind_ok ((bnd_run hl).1 w)]; rfl
          | some u =>
            simp only [] at hh ⊢
            rw [bind_ok ((bnd_run hh).1 w)]
            cases lo with
            | none => cases hl; rfl
            | some v => simp only []; rw [bind_ok ((bnd_run hl).1 w)]; rfl
        | some x =>
          simp only [] at hm ⊢
          rw [bind_ok ((bnd_run hm).1 w)]
          cases hi with
          | none => simp at hh
          | some u =>
            simp only [] at hh ⊢
            rw [bind_ok ((bnd_run hh).1 w)]
            cases lo with
            | none => cases hl; rfl
            | some v => simp only []; rw [bind_ok ((bnd_run hl).1 w)]; rfl
theorem bounds_more {len cap e : Nat} {lo hi : Option Value} {l h m : Nat} (hb : boundsV len cap lo hi none = some (l, h, m)) : boundsV len (cap + e) lo hi none = some (l, h, cap + e) := by
  unfold boundsV at *
  simp only [] at *
  cases hi with
  | none =>
    simp only [] at *
    split at hb
    · cases hb
    · cases hb; rfl
  | some v =>
    simp only [] at *
    cases hv : bndV v cap with
    | none => rw [hv] at hb; cases hb
    | some h' =>
      rw [hv] at hb
      rw [bnd_more hv (Nat.le_add_right _ _)]
      simp only [] at *
      split at hb
      · cases hb
      · cases hb; rfl
theorem bounds_more' {len cap e : Nat} {lo hi : Option Value} {x : Value} {l h m : Nat} (hb : boundsV len cap lo hi (some x) = some (l, h, m)) : boundsV len (cap + e) lo hi (some x) = some (l, h, m) := by
  unfold boundsV at *
  simp only [] at *
  cases hv : bndV x cap with
  | none => rw [hv] at hb; cases hb
  | some m' => rw [hv] at hb; rw [bnd_more hv (Nat.le_add_right _ _)]; exact hb
def intsV : Option Value → Bool
  | none => true
  | some (.int _ _) => true
  | _ => false
def concO (φ : Phi) : Option Value → Option Value → Prop
  | none, y => y = none
  | some v, y => ∃ x, conc φ v = some x ∧ y = some x
theorem intsV_eq {v y : Option Value} (h : intsV v = true) (hy : concO φ v y) : y = v := by
  cases v with
  | none => exact hy
  | some v =>
    obtain ⟨x, h1, rfl⟩ := hy
    cases v <;> simp [intsV] at h
    simp [conc] at h1; subst h1; rfl
def sliceV (P : Program) (t : TypeId) (x : Value) (lo hi mx : Option Value) : Option Value :=
  if intsV lo && intsV hi && intsV mx then
    match P.underlying t, x with
    | some (.array n e), .pointer (some a) => match boundsV n n lo hi mx, tSize P e with
      | some (l, h, m), some sz => if m < BIG then some (.slice (some (if m = l then a else a.add (l * sz))) (h - l) (m - l)) else none
      | _, _ => none
    | some .string, .string s => match mx, boundsV s.size s.size lo hi none with
      | none, some (l, h, _) => some (.string (s.extract l h))
      | _, _ => none
    | some (.slice e), .slice none len cap => match boundsV len cap lo hi mx, tSize P e with
      | some (l, h, m), some _ => some (.slice none (h - l) (m - l))
      | _, _ => none
    | some (.slice e), .slice (some a) len cap =>
      if cap < BIG then
        match a.spot, boundsV len cap lo hi mx, tSize P e with
        | none, some (l, h, m), some sz => some (.slice (some (if m = l then a else a.add (l * sz))) (h - l) (m - l))
        | _, _, _ => none
      else
        match mx with
        | none => match boundsV len (cap - BIG) lo hi none, tSize P e with
          | some (l, h, _), some sz =>
            match a.spot with
            | none =>
              if h ≤ cap - BIG then
                if l = cap - BIG ∧ 0 < l then some (.slice (some ⟨a.block, a.off, some (l * sz)⟩) (h - l) (BIG + (cap - BIG - l)))
                else some (.slice (some (a.add (l * sz))) (h - l) (BIG + (cap - BIG - l)))
              else none
            | some _ => if l = 0 ∧ h = 0 then some (.slice (some a) 0 cap) else none
          | _, _ => none
        | some v => match a.spot, boundsV len (cap - BIG) lo hi (some v), tSize P e with
          | none, some (l, h, m), some sz => if m < BIG then some (.slice (some (if m = l then a else a.add (l * sz))) (h - l) (m - l)) else none
          | _, _, _ => none
    | _, _ => none
  else none
theorem conc_slice_mk {a A : Addr} {B : Blk} {n c : Nat} (hb : φ.at_ a.block = some B) (ha : concA φ a = some A) : conc φ (.slice (some a) n c) = some (.slice (some A) n (if c < BIG then c else c - BIG + B.exc)) := by
  simp only [conc, hb, ha]
theorem add_block (a : Addr) (n : Nat) : (a.add n).block = a.block := by unfold Addr.add; split <;> rfl
theorem concA_if {a A : Addr} {p : Prop} [Decidable p] (hs : a.spot = none) (h : concA φ a = some A) (n : Nat) : concA φ (if p then a else a.add n) = some (if p then A else A.add n) ∧ (if p then a else a.add n).block = a.block := by
  split
  · exact ⟨h, rfl⟩
  · exact ⟨(concA_add hs h n).1, add_block a n⟩
theorem concA_at {a A : Addr} (h : concA φ a = some A) : ∃ B, φ.at_ a.block = some B := by
  unfold concA at h
  cases hb : φ.at_ a.block with
  | none => rw [hb] at h; cases h
  | some B => exact ⟨B, rfl⟩
theorem sliceV_ok {t : TypeId} {x v X : Value} {lo hi mx LO HI MX : Option Value} (h : sliceV P t x lo hi mx = some v) (hx : conc φ x = some X) (h1 : concO φ lo LO) (h2 : concO φ hi HI) (h3 : concO φ mx MX) :
    ∃ V, conc φ v = some V ∧ RunsTo P (Instr.sliceAt t X LO HI MX) V := by
  unfold sliceV at h
  split at h
  · next hi' =>
    simp only [Bool.and_eq_true] at hi'
    obtain rfl := intsV_eq hi'.1.1 h1
    obtain rfl := intsV_eq hi'.1.2 h2
    obtain rfl := intsV_eq hi'.2 h3
    clear h1 h2 h3 hi'
    split at h
    · next n e a hu =>
      split at h
      · next l hh m sz hb hsz =>
        split at h
        · next hlt =>
          cases h
          obtain ⟨hs, A, hA, rfl⟩ := conc_ptr hx
          obtain ⟨B, hB⟩ := concA_at hA
          obtain ⟨g1, g2⟩ := concA_if (p := m = l) hs hA (l * sz)
          obtain ⟨hr, hm, hl, _, _, _⟩ := bounds_run (P := P) (b := false) hb
          refine ⟨_, conc_slice_mk (B := B) (by rw [g2]; exact hB) g1, fun w => ?_⟩
          unfold Instr.sliceAt
          rw [bind_ok (underlying_run hu)]
          simp only []
          rw [bind_ok (show (Instr.sureAddr (.pointer (some A))).run P w = .ok A w from rfl), bind_ok (hr w)]
          simp only []
          rw [bind_ok (sizeOf_run hsz), run_pure, if_pos (show m - l < BIG by omega)]
        · cases h
      · cases h
    · next s hu =>
      split at h
      · next l hh m hb =>
        cases h
        simp [conc] at hx; subst hx
        obtain ⟨hr, _⟩ := bounds_run (P := P) (b := false) hb
        refine ⟨_, rfl, fun w => ?_⟩
        unfold Instr.sliceAt
        rw [bind_ok (underlying_run hu)]
        simp only []
        unfold Instr.slice
        rw [bind_ok (underlying_run hu)]
        simp only [Option.isSome_none, Bool.false_eq_true, if_false]
        rw [bind_ok (hr w)]; rfl
      · cases h
    · next e len cap hu =>
      split at h
      · next l hh m sz hb hsz =>
        cases h
        simp [conc] at hx; subst hx
        obtain ⟨hr, _⟩ := bounds_run (P := P) (b := true) hb
        refine ⟨_, rfl, fun w => ?_⟩
        unfold Instr.sliceAt
        rw [bind_ok (underlying_run hu)]
        simp only []
        unfold Instr.slice
        rw [bind_ok (underlying_run hu)]
        simp only []
        rw [bind_ok (hr w)]
        simp only []
        rw [bind_ok (sizeOf_run hsz), run_pure]
        congr 2; split <;> rfl
      · cases h
    · next e a len cap hu =>
      obtain ⟨B, A, hB, hA, rfl⟩ := conc_slice hx
      have key : ∀ (C l hh m sz : Nat) (V : Value), tSize P e = some sz → RunsTo P (Instr.sliceBounds true len C LO HI MX) (l, hh, m) → V = .slice (some (if m = l then A else A.add (l * sz))) (hh - l) (m - l) →
          RunsTo P (Instr.sliceAt t (.slice (some A) len C) LO HI MX) V := by
        intro C l hh m sz V hsz hr hV w
        subst hV
        unfold Instr.sliceAt
        rw [bind_ok (underlying_run hu)]
        simp only []
        unfold Instr.slice
        rw [bind_ok (underlying_run hu)]
        simp only []
        rw [bind_ok (hr w)]
        simp only []
        rw [bind_ok (sizeOf_run hsz), run_pure]
        congr 2; split <;> rfl
      split at h
      · next hc =>
        split at h
        · next l hh m sz hs hb hsz =>
          cases h
          obtain ⟨g1, g2⟩ := concA_if (p := m = l) hs hA (l * sz)
          obtain ⟨hr, hm, _⟩ := bounds_run (P := P) (b := true) hb
          refine ⟨_, conc_slice_mk (B := B) (by rw [g2]; exact hB) g1, ?_⟩
          rw [if_pos hc]
          exact key _ l hh m sz _ hsz hr (by rw [if_pos (show m - l < BIG by omega)])
        · cases h
      · next hc =>
        rw [if_neg hc]
        split at h
        · split at h
          · next l hh m sz hb hsz =>
            obtain ⟨hr0, hm0, hl0, hh0, hm1, hh1⟩ := bounds_run (P := P) (b := true) hb
            obtain ⟨hr, _⟩ := bounds_run (P := P) (b := true) (bounds_more (e := B.exc) hb)
            split at h
            · next hs =>
              split at h
              · next hk =>
                split at h
                · next hl =>
                  cases h
                  refine ⟨_, conc_slice_mk (B := B) hB (show concA φ ⟨a.block, a.off, some (l * sz)⟩ = some (if B.exc = 0 then A else A.add (l * sz)) from ?_), ?_⟩
                  · unfold concA at hA ⊢
                    simp only [hB, hs] at hA ⊢
                    cases hA
                    congr 1
                    split
                    · rfl
                    · rw [add_off]
                  · refine key _ l hh (cap - BIG + B.exc) sz _ hsz hr ?_
                    have e1 : (if BIG + (cap - BIG - l) < BIG then BIG + (cap - BIG - l) else BIG + (cap - BIG - l) - BIG + B.exc) = cap - BIG + B.exc - l := by rw [if_neg (by omega)]; omega
                    have e2 : (if B.exc = 0 then A else A.add (l * sz)) = (if cap - BIG + B.exc = l then A else A.add (l * sz)) := by
                      by_cases he : B.exc = 0
                      · rw [if_pos he, if_pos (by omega)]
                      · rw [if_neg he, if_neg (by omega)]
                    rw [e1, e2]
                · next hl =>
                  cases h
                  obtain ⟨g1, g2⟩ := concA_add hs hA (l * sz)
                  refine ⟨_, conc_slice_mk (B := B) (by rw [add_block]; exact hB) g1, ?_⟩
                  refine key _ l hh (cap - BIG + B.exc) sz _ hsz hr ?_
                  have e1 : (if BIG + (cap - BIG - l) < BIG then BIG + (cap - BIG - l) else BIG + (cap - BIG - l) - BIG + B.exc) = cap - BIG + B.exc - l := by rw [if_neg (by omega)]; omega
                  have e2 : A.add (l * sz) = (if cap - BIG + B.exc = l then A else A.add (l * sz)) := by
                    split
                    · next he =>
                      have : l = 0 := by omega
                      subst this; simp [Addr.add]
                    · rfl
                  rw [e1, ← e2]
              · cases h
            · next sh hs =>
              split at h
              · next hl =>
                cases h
                obtain ⟨rfl, rfl⟩ := hl
                refine ⟨_, conc_slice_mk (B := B) hB hA, ?_⟩
                refine key _ 0 0 (cap - BIG + B.exc) sz _ hsz hr ?_
                have e2 : A = (if cap - BIG + B.exc = 0 then A else A.add (0 * sz)) := by
                  split
                  · rfl
                  · simp [Addr.add]
                rw [if_neg hc, ← e2]; rfl
              · cases h
          · cases h
        · next u =>
          split at h
          · next l hh m sz hs hb hsz =>
            split at h
            · next hlt =>
              cases h
              obtain ⟨g1, g2⟩ := concA_if (p := m = l) hs hA (l * sz)
              obtain ⟨hr, hm, _⟩ := bounds_run (P := P) (b := true) (bounds_more' (e := B.exc) hb)
              refine ⟨_, conc_slice_mk (B := B) (by rw [g2]; exact hB) g1, ?_⟩
              exact key _ l hh m sz _ hsz hr (by rw [if_pos (show m - l < BIG by omega)])
            · cases h
          · cases h
    · cases h
  · cases h
end
end Ev
end Go.Proofs.YtifoekadjnlhcaaGreatDoor
noncomputable section
namespace Go.Proofs.YtifoekadjnlhcaaGreatDoor
open Go.RowKit
set_option linter.unusedVariables false
set_option linter.unusedSimpArgs false
namespace Ev
def cellsL : Value → List Value
  | .agg ⟨l⟩ => l
  | v => [v]
section
variable {P : Program} {φ : Phi}
theorem cellsL_conc {v X : Value} (h : conc φ v = some X) : concL φ (cellsL v) = some X.cells.toList := by
  have one : oneCell v = true → concL φ [v] = some X.cells.toList := fun h1 => by
    have h2 := oneCell_conc h1 h
    have h3 : X.cells = #[X] := by cases X <;> simp [oneCell] at h2 <;> rfl
    rw [h3]; simp [concL, h]
  cases v
  case agg cs => obtain ⟨cs⟩ := cs; obtain ⟨l, hl, rfl⟩ := conc_agg h; simpa [Value.cells, cellsL] using hl
  case tuple vs =>
    obtain ⟨vs⟩ := vs; have h' := h
    obtain ⟨l, hl, rfl⟩ := conc_tuple h
    simp [cellsL, concL, h', Value.cells]
  all_goals exact one rfl
def setL : List Value → Nat → List Value → List Value
  | l, _, [] => l
  | [], _, _ => []
  | _ :: l, 0, v :: vs => v :: setL l 0 vs
  | c :: l, k + 1, vs => c :: setL l k vs
theorem setL_len : ∀ (l : List Value) (k : Nat) (vs : List Value), (setL l k vs).length = l.length
  | l, k, [] => by cases l <;> rfl
  | [], k, v :: vs => rfl
  | c :: l, 0, v :: vs => by simp [setL, setL_len l 0 vs]
  | c :: l, k + 1, v :: vs => by simp [setL, setL_len l k (v :: vs)]
theorem setL_get : ∀ (l : List Value) (k : Nat) (vs : List Value) (i : Nat), k + vs.length ≤ l.length → (setL l k vs)[i]? = if k ≤ i ∧ i < k + vs.length then vs[i - k]? else l[i]?
  | l, k, [], i, _ => by rw [if_neg (by simp)]; cases l <;> rfl
  | [], k, v :: vs, i, h => by simp at h
  | c :: l, 0, v :: vs, i, h => by
    simp only [List.length_cons] at h ⊢
    cases i with
    | zero => simp [setL]
    | succ i =>
      rw [setL, List.getElem?_cons_succ, setL_get l 0 vs i (by omega)]
      by_cases h1 : i < vs.length
      · rw [if_pos (by omega), if_pos (by omega)]; simp
      · rw [if_neg (by omega), if_neg (by omega)]; simp
  | c :: l, k + 1, v :: vs, i, h => by
    simp only [List.length_cons] at h ⊢
    cases i with
    | zero => simp [setL]
    | succ i =>
      show (c :: setL l k (v :: vs))[i + 1]? = _
      rw [List.getElem?_cons_succ, setL_get l k (v :: vs) i (by simp; omega)]
      simp only [List.length_cons]
      by_cases h1 : k ≤ i ∧ i < k + (vs.length + 1)
      · rw [if_pos h1, if_pos (by omega), show i + 1 - (k + 1) = i - k by omega]
      · rw [if_neg h1, if_neg (by omega)]; simp
theorem foldl_set : ∀ (xs : List Value) (c : Array Value) (off j : Nat), (xs.zipIdx j).foldl (fun cs (p : Value × Nat) => cs.setIfInBounds (off + p.2) p.1) c = putL c (off + j) xs
  | [], c, off, j => rfl
  | x :: xs, c, off, j => by
    rw [List.zipIdx_cons, List.foldl_cons, foldl_set xs _ off (j + 1)]
    rfl
def fillL (place : Nat → Option (Nat × Nat)) : List Value → List (Nat × Value) → Option (List Value)
  | cells, [] => some cells
  | cells, (i, v) :: rest => match place i with
    | some (off, size) => if (cellsL v).length ≠ size ∨ off + (cellsL v).length > cells.length then none else fillL place (setL cells off (cellsL v)) rest
    | none => none
def concPs (φ : Phi) : List (Nat × Value) → List (Nat × Value) → Prop
  | [], y => y = []
  | (i, v) :: l, y => ∃ x y', y = (i, x) :: y' ∧ conc φ v = some x ∧ concPs φ l y'
theorem fill_run {place : Nat → Option (Nat × Nat)} : ∀ (parts : List (Nat × Value)) (PS : List (Nat × Value)) (cells r : List Value) (C : List Value), concPs φ parts PS → fillL place cells parts = some r → concL φ cells = some C →
    ∃ R, Instr.fill place C.toArray PS = some R.toArray ∧ concL φ r = some R
  | [], PS, cells, r, C, hp, h, hc => by
    cases hp; cases h; exact ⟨C, rfl, hc⟩
  | (i, v) :: rest, PS, cells, r, C, hp, h, hc => by
    obtain ⟨x, PS', rfl, hx, hp'⟩ := hp
    unfold fillL at h
    split at h
    · next off size hpl =>
      split at h
      · cases h
      · next hn =>
        have e1 := cellsL_conc hx
        have e2 := concL_len e1
        have e3 := concL_len hc
        simp only [Array.length_toList] at e2
        have hn1 : (cellsL v).length = size ∧ off + (cellsL v).length ≤ cells.length := by omega
        have hnew : concL φ (setL cells off (cellsL v)) = some (putL C.toArray off x.cells.toList).toList := by
          refine concL_of_get (by simp [setL_len, putL_size, e3]) fun k u hu => ?_
          rw [setL_get _ _ _ _ (by omega)] at hu
          rw [Array.getElem?_toList, putL_get _ _ _ _ (by simp; omega)]
          split at hu
          · rw [if_pos (by simp; omega)]; exact concL_get e1 _ _ hu
          · rw [if_neg (by simp; omega)]
            obtain ⟨y, g1, g2⟩ := concL_get hc _ _ hu
            exact ⟨y, by simpa using g1, g2⟩
        obtain ⟨R, g1, g2⟩ := fill_run rest PS' _ r _ hp' h hnew
        refine ⟨R, ?_, g2⟩
        have hcond : ¬ ((decide (x.cells.size ≠ size) || decide (off + x.cells.size > C.toArray.size)) = true) := by
          have : C.toArray.size = C.length := by simp
          rw [this, e2]; simp only [Bool.or_eq_true, decide_eq_true_eq]; omega
        unfold Instr.fill
        simp only [hpl]
        rw [if_neg hcond]
        have : x.cells.zipIdx.foldl (fun cs (p : Value × Nat) => cs.setIfInBounds (off + p.2) p.1) C.toArray = putL C.toArray off x.cells.toList := by
          rw [← Array.foldl_toList, Array.toList_zipIdx]
          exact foldl_set _ _ _ 0
        rw [← g1]
        simp only [Array.toArray_toList]
        rw [← this]
    · cases h
def placesV (P : Program) : List Field → Option (List (Nat × Nat))
  | [] => some []
  | f :: fs => match tSize P f.type, placesV P fs with
    | some n, some l => some ((f.offset, n) :: l)
    | _, _ => none
theorem places_run : ∀ (fs : List Field) (l : List (Nat × Nat)), placesV P fs = some l → RunsTo P (fs.mapM fun f => do pure (f.offset, ← Go.sizeOf f.type) : Sem (List (Nat × Nat))) l
  | [], l, h => by cases h; intro w; rfl
  | f :: fs, l, h => by
    unfold placesV at h
    split at h
    · next n l' h1 h2 =>
      cases h
      intro w
      rw [List.mapM_cons]
      have e : (do pure (f.offset, ← Go.sizeOf f.type) : Sem (Nat × Nat)).run P w = .ok (f.offset, n) w := by rw [bind_ok (sizeOf_run h1)]; rfl
      rw [bind_ok e, bind_ok (places_run fs l' h2 w)]; rfl
    · cases h
def buildV (P : Program) (t : TypeId) (ps : List (Nat × Value)) : Option Value :=
  match (P.info? t).bind (·.zero) with
  | some z => if (cellsL z).all plainS then
      match P.underlying t with
      | some (.struct fs) => match placesV P fs.toList with
        | some l => (fillL (fun i => l[i]?) (cellsL z) ps).map fun r => .agg ⟨r⟩
        | none => none
      | some (.array _ e) => match tSize P e with
        | some n => (fillL (fun i => some (i * n, n)) (cellsL z) ps).map fun r => .agg ⟨r⟩
        | none => none
      | _ => none
    else none
  | none => none
theorem cellsL_plain {z : Value} (h : (cellsL z).all plainS = true) : z.cells = (cellsL z).toArray := by
  cases z
  case agg cs => obtain ⟨l⟩ := cs; rfl
  case tuple vs => simp [cellsL, plainS] at h
  all_goals rfl
theorem buildV_ok {t : TypeId} {ps PS : List (Nat × Value)} {v : Value} (h : buildV P t ps = some v) (hp : concPs φ ps PS) : ∃ V, conc φ v = some V ∧ RunsTo P (Instr.build t PS.toArray) V := by
  unfold buildV at h
  split at h
  · next z hz =>
    split at h
    · next hpl =>
      have hzc := cellsL_plain hpl
      split at h
      · next fs hu =>
        split at h
        · next l hl =>
          cases hf : fillL (fun i => l[i]?) (cellsL z) ps with
          | none => rw [hf] at h; cases h
          | some r =>
            rw [hf] at h; cases h
            obtain ⟨R, g1, g2⟩ := fill_run ps PS _ r _ hp hf (concL_plain hpl)
            refine ⟨.agg R.toArray, by simp only [conc, g2]; rfl, fun w => ?_⟩
            unfold Instr.build
            rw [bind_ok (zeroValue_run hz), bind_ok (underlying_run hu)]
            simp only []
            have hm : (fs.mapM fun f => do pure (f.offset, ← Go.sizeOf f.type) : Sem (Array (Nat × Nat))).run P w = .ok l.toArray w := by
              rw [Array.mapM_eq_mapM_toList]
              have := places_run fs.toList l hl w
              show (Sem.bind _ _).run P w = _
              have e := bind_ok (f := fun x : List (Nat × Nat) => (pure x.toArray : Sem _)) this
              exact e
            rw [bind_ok hm]
            have hg : Instr.fill (l.toArray[·]?) z.cells PS.toArray.toList = some R.toArray := by rw [hzc]; simpa using g1
            simp only [hg]; rfl
        · cases h
      · next n e hu =>
        split at h
        · next m hm =>
          cases hf : fillL (fun i => some (i * m, m)) (cellsL z) ps with
          | none => rw [hf] at h; cases h
          | some r =>
            rw [hf] at h; cases h
            obtain ⟨R, g1, g2⟩ := fill_run ps PS _ r _ hp hf (concL_plain hpl)
            refine ⟨.agg R.toArray, by simp only [conc, g2]; rfl, fun w => ?_⟩
            unfold Instr.build
            rw [bind_ok (zeroValue_run hz), bind_ok (underlying_run hu)]
            simp only []
            rw [bind_ok (sizeOf_run hm)]
            have hg : Instr.fill (fun i => some (i * m, m)) z.cells PS.toArray.toList = some R.toArray := by rw [hzc]; simpa using g1
            simp only [hg]; rfl
        · cases h
      · cases h
    · cases h
  · cases h
def lenV (P : Program) (t : TypeId) (x : Value) : Option Value :=
  match P.underlying t, x with
  | some .string, .string s => some (goInt s.size)
  | some (.array n _), _ => some (goInt n)
  | some (.pointer arr), _ => match P.underlying arr with
    | some (.array n _) => some (goInt n)
    | _ => none
  | some (.slice _), .slice _ n _ => some (goInt n)
  | some (.map _ _), .map none => some (goInt 0)
  | some .string, .float .f64 n => if n % 8 = 5 then some (.float .f64 (n + 1)) else none
  | _, _ => none
theorem lenV_ok {t ty : TypeId} {ts : Array TypeId} {x v X : Value} (ht : ts[0]? = some t) (h : lenV P t x = some v) (hx : conc φ x = some X) : ∃ V, conc φ v = some V ∧ RunsTo P (Builtin.len_ ts ty #[X]) V := by
  have start : ∀ w, (Builtin.len_ ts ty #[X]).run P w = (do
    match ← underlying t, X with
    | .string, .string s => pure (goInt s.size)
    | .array n _, _ => pure (goInt n)
    | .pointer arr, _ =>
      let .array n _ ← underlying arr | stuck "len: pointer to array expected"
      pure (goInt n)
    | .slice _, .slice _ n _ => pure (goInt n)
    | .map _ _, .map none | .chan _ _, .chan none => pure (goInt 0)
    | .map _ _, .map (some r) =>
      let .map entries _ ← getObj r | stuck "len: map expected"
      pure (goInt entries.size)
    | .chan _ _, .chan (some r) =>
      let .chan _ buf _ _ _ timer ← getObj r | stuck "len: channel expected"
      pure (goInt (if timer then 0 else buf.size))
    | _, _ => stuck "len: string, array, pointer to array, slice, map or channel expected" : Sem Value).run P w := by
    intro w; unfold Builtin.len_; rw [ht]; rfl
  unfold lenV at h
  split at h
  · next s hu => cases h; simp [conc] at hx; subst hx; exact ⟨_, rfl, fun w => by rw [start, bind_ok (underlying_run hu)]; rfl⟩
  · next n e hu => cases h; exact ⟨_, rfl, fun w => by rw [start, bind_ok (underlying_run hu)]; rfl⟩
  · next arr hu =>
    split at h
    · next n e hu2 => cases h; exact ⟨_, rfl, fun w => by rw [start, bind_ok (underlying_run hu)]; simp only []; rw [bind_ok (underlying_run hu2)]; rfl⟩
    · cases h
  · next e a n c hu =>
    cases h
    cases a with
    | none => simp [conc] at hx; subst hx; exact ⟨_, rfl, fun w => by rw [start, bind_ok (underlying_run hu)]; rfl⟩
    | some a => obtain ⟨B, A, _, _, rfl⟩ := conc_slice hx; exact ⟨_, rfl, fun w => by rw [start, bind_ok (underlying_run hu)]; rfl⟩
  · next k e hu => cases h; simp [conc] at hx; subst hx; exact ⟨_, rfl, fun w => by rw [start, bind_ok (underlying_run hu)]; rfl⟩
  · next n hu =>
    split at h
    · next hc =>
      rw [← Option.some.inj h]
      obtain ⟨s, _, rfl, hat⟩ := tok_str hc (conc_tok hx)
      exact ⟨.int .i64 s.size, conc_of_tok (tok_len hc hat), fun w => by rw [start, bind_ok (underlying_run hu)]; rfl⟩
    · cases h
  · cases h
def capV (P : Program) (t : TypeId) (x : Value) : Option Value :=
  match P.underlying t, x with
  | some (.slice _), .slice _ _ n => if n < BIG then some (goInt n) else none
  | _, _ => none
theorem capV_ok {t ty : TypeId} {ts : Array TypeId} {x v X : Value} (ht : ts[0]? = some t) (h : capV P t x = some v) (hx : conc φ x = some X) : ∃ V, conc φ v = some V ∧ RunsTo P (Builtin.cap_ ts ty #[X]) V := by
  unfold capV at h
  split at h
  · next e a m n hu =>
    split at h
    · next hc =>
      cases h
      cases a with
      | none =>
        simp [conc] at hx; subst hx
        refine ⟨_, rfl, fun w => ?_⟩
        unfold Builtin.cap_; rw [ht]
        show (Sem.bind (underlying t) _).run P w = _
        exact (bind_ok (underlying_run hu)).trans rfl
      | some a =>
        obtain ⟨B, A, _, _, rfl⟩ := conc_slice hx
        rw [if_pos hc]
        refine ⟨_, rfl, fun w => ?_⟩
        unfold Builtin.cap_; rw [ht]
        show (Sem.bind (underlying t) _).run P w = _
        exact (bind_ok (underlying_run hu)).trans rfl
    · cases h
  · cases h
end
end Ev
end Go.Proofs.YtifoekadjnlhcaaGreatDoor
noncomputable section
namespace Go.Proofs.YtifoekadjnlhcaaGreatDoor
open Go.RowKit
set_option linter.unusedVariables false
set_option linter.unusedSimpArgs false
namespace Ev
def valsV (ρ : Operand → Option Value) (l : List Operand) : Option (List Value) :=
  @List.rec Operand (fun _ => Option (List Value)) (some []) (fun x _ ih => match ρ x with
    | some v => (match ih with
      | some vs => some (v :: vs)
      | none => none)
    | none => none) l
theorem valsV_nil (ρ : Operand → Option Value) : valsV ρ [] = some [] := rfl
theorem valsV_cons (ρ : Operand → Option Value) (x : Operand) (l : List Operand) : valsV ρ (x :: l) = match ρ x, valsV ρ l with
    | some v, some vs => some (v :: vs)
    | _, _ => none := by
  show (match ρ x with
    | some v => (match valsV ρ l with
      | some vs => some (v :: vs)
      | none => none)
    | none => none) = _
  cases ρ x <;> cases valsV ρ l <;> rfl
def partsV (ρ : Operand → Option Value) : List (Nat × Operand) → Option (List (Nat × Value))
  | [] => some []
  | (i, x) :: l => match ρ x, partsV ρ l with
    | some v, some vs => some ((i, v) :: vs)
    | _, _ => none
def optV (ρ : Operand → Option Value) : Option Operand → Option (Option Value)
  | none => some none
  | some x => (ρ x).map some
def ifaceV (P : Program) (t : TypeId) (v : Value) : Option Value :=
  match P.underlying t with
  | some (.interface _) => none
  | some _ => some (.iface t v)
  | none => none
def arrPtrV (P : Program) (t : TypeId) (v : Value) : Option Value :=
  match P.underlying t, v with
  | some (.array n _), .slice (some a) len _ => if a.spot.isNone ∧ n ≤ len then some (.pointer (some a)) else none
  | _, _ => none
def minmaxV (mx : Bool) (vs : List Value) : Option Value :=
  if vs.all plainS then (if mx then asPure (Builtin.max_ #[] 0 vs.toArray) else asPure (Builtin.min_ #[] 0 vs.toArray)) else none
def callP (P : Program) (b : Builtin) (ts : Array TypeId) (vs : List Value) : Option Value :=
  match b, vs with
  | .len, [v] => match ts.toList with | t :: _ => lenV P t v | [] => none
  | .cap, [v] => match ts.toList with | t :: _ => capV P t v | [] => none
  | .max, vs => minmaxV true vs
  | .min, vs => minmaxV false vs
  | _, _ => none
def evP (P : Program) (ρ : Operand → Option Value) (op : Op) : Option Value :=
  match op with
  | .move x => ρ x
  | .assign x => ρ x
  | .pick c a b => match ρ c with
    | some (.bool true) => ρ a
    | some (.bool false) => ρ b
    | _ => none
  | .nilCheck x => match ρ x with
    | some (.pointer (some a)) => some (.pointer (some a))
    | some (.func (.func f) p q) => some (.func (.func f) p q)
    | _ => none
  | .binOp op t x y _ => match ρ x, ρ y with
    | some a, some b => binV P op t (isC x || isC y) a b
    | _, _ => none
  | .unOp op _ x => match ρ x with | some v => unV op v | none => none
  | .convert s d x => match ρ x with | some v => convP P s d v | none => none
  | .makeFunc (.func f) first captured => match valsV ρ first.toList, valsV ρ captured.toList with
    | some a, some b => some (.func (.func f) ⟨a⟩ ⟨b⟩)
    | _, _ => none
  | .fieldAddr s x f => match ρ x with | some v => fieldAddrV P s v f | none => none
  | .field t x f => match ρ x with | some v => fieldV P t v f | none => none
  | .indexAddr t x i => match ρ x, ρ i with
    | some v, some j => indexAddrV P t v j
    | _, _ => none
  | .index t x i => match ρ x, ρ i with
    | some v, some j => indexV P t v j
    | _, _ => none
  | .slice t x lo hi mx => match ρ x, optV ρ lo, optV ρ hi, optV ρ mx with
    | some v, some l, some h, some m => sliceV P t v l h m
    | _, _, _, _ => none
  | .extract x i => match ρ x with | some v => extractV v i | none => none
  | .build t ps => match partsV ρ ps.toList with | some l => buildV P t l | none => none
  | .makeInterface t x => match ρ x with | some v => ifaceV P t v | none => none
  | .sliceToArrayPointer t x => match ρ x with | some v => arrPtrV P t v | none => none
  | .call c => match c.callee with
    | .builtin b => match valsV ρ c.args.toList with | some vs => callP P b c.argTypes vs | none => none
    | _ => none
  | _ => none
section
variable {P : Program} {φ : Phi} {ρ : Operand → Option Value} {ev : Operand → Value}
theorem valsV_ok (hρ : ∀ x u, ρ x = some u → conc φ u = some (ev x)) : ∀ (l : List Operand) (vs : List Value), valsV ρ l = some vs → concL φ vs = some (l.map ev)
  | [], vs, h => by cases h; rfl
  | x :: l, vs, h => by
    rw [valsV_cons] at h
    split at h
    · next v us h1 h2 => cases h; simp only [concL, hρ _ _ h1, valsV_ok hρ l us h2, List.map_cons]
    · cases h
theorem partsV_ok (hρ : ∀ x u, ρ x = some u → conc φ u = some (ev x)) : ∀ (l : List (Nat × Operand)) (vs : List (Nat × Value)), partsV ρ l = some vs → concPs φ vs (l.map fun p => (p.1, ev p.2))
  | [], vs, h => by cases h; rfl
  | (i, x) :: l, vs, h => by
    unfold partsV at h
    split at h
    · next v us h1 h2 => cases h; exact ⟨_, _, rfl, hρ _ _ h1, partsV_ok hρ l us h2⟩
    · cases h
theorem optV_ok (hρ : ∀ x u, ρ x = some u → conc φ u = some (ev x)) {x : Option Operand} {v : Option Value} (h : optV ρ x = some v) : concO φ v (x.map ev) := by
  cases x with
  | none => cases h; rfl
  | some x =>
    simp only [optV] at h
    cases hx : ρ x with
    | none => rw [hx] at h; cases h
    | some u => rw [hx] at h; cases h; exact ⟨_, hρ _ _ hx, rfl⟩
theorem wrapV {s : Sem Value} {V : Value} (h : RunsTo P s V) : RunsTo P (do pure (Next.value (← s))) (Next.value V) := fun w => by rw [bind_ok (h w)]; rfl
theorem minmax_eq (t : Array TypeId) (ty : TypeId) (a : Array Value) : Builtin.max_ t ty a = Builtin.max_ #[] 0 a ∧ Builtin.min_ t ty a = Builtin.min_ #[] 0 a := ⟨rfl, rfl⟩
theorem evP_ok (hρ : ∀ x u, ρ x = some u → conc φ u = some (ev x)) {o : Oper} {v : Value} (h : evP P ρ o.op = some v) : ∃ V, conc φ v = some V ∧ RunsTo P (execOp ev o) (.value V) := by
  obtain ⟨dst, op, ty, pos, after, guard⟩ := o
  simp only at h
  unfold evP at h
  split at h
  · next x => exact ⟨_, hρ _ _ h, fun w => rfl⟩
  · next x => exact ⟨_, hρ _ _ h, fun w => rfl⟩
  · next c a b =>
    split at h
    · next hc =>
      have hb := hρ _ _ hc
      simp [conc] at hb
      refine ⟨_, hρ _ _ h, fun w => ?_⟩
      show (do pure (Next.value (if ← asBool (ev c) then ev a else ev b)) : Sem Next).run P w = _
      rw [← hb]; rfl
    · next hc =>
      have hb := hρ _ _ hc
      simp [conc] at hb
      refine ⟨_, hρ _ _ h, fun w => ?_⟩
      show (do pure (Next.value (if ← asBool (ev c) then ev a else ev b)) : Sem Next).run P w = _
      rw [← hb]; rfl
    · cases h
  · next x =>
    split at h
    · next a hx =>
      cases h
      have hc := hρ _ _ hx
      obtain ⟨_, A, _, he⟩ := conc_ptr hc
      refine ⟨_, hc, fun w => ?_⟩
      unfold execOp
      simp only [he]; rfl
    · next f p q hx =>
      cases h
      have hc := hρ _ _ hx
      obtain ⟨f', A, B, hf, _, _, he⟩ := conc_func hc
      refine ⟨_, hc, fun w => ?_⟩
      unfold execOp
      simp only [he]; rfl
    · cases h
  · next op t x y yt =>
    split at h
    · next a b ha hb =>
      obtain ⟨V, h1, h2⟩ := binV_ok (a := x) (b := y) h (hρ _ _ ha) (hρ _ _ hb)
      exact ⟨V, h1, wrapV h2⟩
    · cases h
  · next op t x =>
    split at h
    · next a ha => obtain ⟨V, h1, h2⟩ := unV_ok (P := P) h (hρ _ _ ha); exact ⟨V, h1, wrapV h2⟩
    · cases h
  · next s d x =>
    split at h
    · next a ha => obtain ⟨V, h1, h2⟩ := convP_ok h (hρ _ _ ha); exact ⟨V, h1, wrapV h2⟩
    · cases h
  · next f first captured =>
    split at h
    · next a b ha hb =>
      cases h
      refine ⟨.func (.func f) (first.map ev) (captured.map ev), ?_, fun w => rfl⟩
      simp only [conc, valsV_ok hρ _ _ ha, valsV_ok hρ _ _ hb]
      congr 2 <;> (apply Array.toList_inj.1; simp)
    · cases h
  · next s x f =>
    split at h
    · next a ha => obtain ⟨V, h1, h2⟩ := fieldAddrV_ok h (hρ _ _ ha); exact ⟨V, h1, wrapV h2⟩
    · cases h
  · next t x f =>
    split at h
    · next a ha => obtain ⟨V, h1, h2⟩ := fieldV_ok h (hρ _ _ ha); exact ⟨V, h1, wrapV h2⟩
    · cases h
  · next t x i =>
    split at h
    · next a b ha hb => obtain ⟨V, h1, h2⟩ := indexAddrV_ok h (hρ _ _ ha) (hρ _ _ hb); exact ⟨V, h1, wrapV h2⟩
    · cases h
  · next t x i =>
    split at h
    · next a b ha hb => obtain ⟨V, h1, h2⟩ := indexV_ok h (hρ _ _ ha) (hρ _ _ hb); exact ⟨V, h1, wrapV h2⟩
    · cases h
  · next t x lo hi mx =>
    split at h
    · next a l hh m ha hl hh' hm =>
      obtain ⟨V, h1, h2⟩ := sliceV_ok h (hρ _ _ ha) (optV_ok hρ hl) (optV_ok hρ hh') (optV_ok hρ hm)
      exact ⟨V, h1, wrapV h2⟩
    · cases h
  · next x i =>
    split at h
    · next a ha => obtain ⟨V, h1, h2⟩ := extractV_ok (P := P) h (hρ _ _ ha); exact ⟨V, h1, wrapV h2⟩
    · cases h
  · next t ps =>
    split at h
    · next l hl =>
      obtain ⟨V, h1, h2⟩ := buildV_ok h (partsV_ok hρ _ _ hl)
      refine ⟨V, h1, ?_⟩
      have e : (ps.toList.map fun p => (p.1, ev p.2)).toArray = ps.map fun p => (p.1, ev p.2) := by apply Array.toList_inj.1; simp
      rw [e] at h2
      exact wrapV h2
    · cases h
  · next t x =>
    split at h
    · next a ha =>
      unfold ifaceV at h
      have hc := hρ _ _ ha
      split at h
      · cases h
      · next d hnu hu =>
        cases h
        refine ⟨.iface t (ev x), by simp only [conc, hc]; rfl, wrapV fun w => ?_⟩
        unfold Instr.makeInterface
        rw [bind_ok (underlying_run hu)]
        cases d <;> first | rfl | (exact absurd rfl (hnu _))
      · cases h
    · cases h
  · next t x =>
    split at h
    · next a ha =>
      unfold arrPtrV at h
      have hc := hρ _ _ ha
      split at h
      · next n e a len c hu =>
        split at h
        · next hb =>
          cases h
          obtain ⟨B, A, hB, hA, he⟩ := conc_slice hc
          refine ⟨_, conc_ptr_mk (by simpa using hb.1) hA, wrapV fun w => ?_⟩
          rw [he]
          unfold Instr.arrayAt
          rw [bind_ok (underlying_run hu)]
          simp only []
          rw [if_neg (by omega)]; rfl
        · cases h
      · cases h
    · cases h
  · next c =>
    split at h
    · next b hcal =>
      split at h
      · next vs hvs =>
        have hcl := valsV_ok hρ _ _ hvs
        have hargs : c.args.map ev = (c.args.toList.map ev).toArray := by apply Array.toList_inj.1; simp
        have run : ∀ {V : Value} {s : (Array TypeId) → TypeId → Array Value → Sem Value}, (∀ consts, builtin b c.argTypes ty consts (c.args.map ev) = (do pure (.value (← s c.argTypes ty (c.args.map ev))))) → RunsTo P (s c.argTypes ty (c.args.toList.map ev).toArray) V → RunsTo P (execOp ev ⟨dst, .call c, ty, pos, after, guard⟩) (.value V) := by
          intro V s hb hs w
          unfold execOp
          simp only
          unfold resolve
          rw [hcal]
          simp only
          rw [bind_ok (run_pure P _ w)]
          show (builtin b c.argTypes ty _ (c.args.map ev)).run P w = _
          rw [hb, hargs]
          exact wrapV hs w
        unfold callP at h
        split at h
        · next v =>
          split at h
          · next t ts hts =>
            obtain ⟨V, g1, g2⟩ : ∃ V, conc φ v = some V ∧ c.args.toList.map ev = [V] := by
              simp only [concL] at hcl
              cases hv : conc φ v with
              | none => rw [hv] at hcl; cases hcl
              | some V => rw [hv] at hcl; simp only [Option.some.injEq] at hcl; exact ⟨V, rfl, hcl.symm⟩
            obtain ⟨V', g3, g4⟩ := lenV_ok (ty := ty) (ts := c.argTypes) (by rw [← Array.getElem?_toList, hts]; rfl) h g1
            exact ⟨V', g3, run (s := Builtin.len_) (fun _ => rfl) (by rw [g2]; exact g4)⟩
          · cases h
        · next v =>
          split at h
          · next t ts hts =>
            obtain ⟨V, g1, g2⟩ : ∃ V, conc φ v = some V ∧ c.args.toList.map ev = [V] := by
              simp only [concL] at hcl
              cases hv : conc φ v with
              | none => rw [hv] at hcl; cases hcl
              | some V => rw [hv] at hcl; simp only [Option.some.injEq] at hcl; exact ⟨V, rfl, hcl.symm⟩
            obtain ⟨V', g3, g4⟩ := capV_ok (ty := ty) (ts := c.argTypes) (by rw [← Array.getElem?_toList, hts]; rfl) h g1
            exact ⟨V', g3, run (s := Builtin.cap_) (fun _ => rfl) (by rw [g2]; exact g4)⟩
          · cases h
        · unfold minmaxV at h
          split at h
          · next hp =>
            rw [concL_plain hp] at hcl
            simp only [Option.some.injEq] at hcl
            obtain ⟨g1, g2⟩ := asPure_ok h
            refine ⟨v, conc_plainS g1, run (s := Builtin.max_) (fun _ => rfl) fun w => ?_⟩
            rw [← hcl, (minmax_eq _ _ _).1, g2]; rfl
          · cases h
        · unfold minmaxV at h
          split at h
          · next hp =>
            rw [concL_plain hp] at hcl
            simp only [Option.some.injEq] at hcl
            obtain ⟨g1, g2⟩ := asPure_ok h
            refine ⟨v, conc_plainS g1, run (s := Builtin.min_) (fun _ => rfl) fun w => ?_⟩
            rw [← hcl, (minmax_eq _ _ _).2, g2]; rfl
          · cases h
        · cases h
      · cases h
    · cases h
  · cases h
end
structure FRel (D : List Deferred) (φ : Phi) (nt : Nat) (T : Tr Value) (a : Act) : Prop where
  size : a.tmps.size = nt
  vals : ∀ t, conc φ ((T.get t).getD undef) = some (a.tmps.getD t undef)
  defers : a.defers = D
variable {D : List Deferred}
def opV (T : Tr Value) : Operand → Option Value
  | .tmp t => some ((T.get t).getD undef)
  | .const v => if plainV v then some v else none
  | .global _ => none
  | .func f => some (.func (.func f) #[] #[])
theorem opV_ok {φ : Phi} {nt : Nat} {T : Tr Value} {a : Act} (h : FRel D φ nt T a) : ∀ x u, opV T x = some u → conc φ u = some (a.eval x)
  | .tmp t, u, hu => by cases hu; exact h.vals t
  | .const v, u, hu => by
    simp only [opV] at hu
    split at hu
    · next hp => cases hu; exact conc_plainV hp
    · cases hu
  | .global _, u, hu => by cases hu
  | .func f, u, hu => by cases hu; rfl
theorem FRel.le {φ ψ : Phi} {nt : Nat} {T : Tr Value} {a : Act} (h : FRel D φ nt T a) (hl : φ.le ψ) : FRel D ψ nt T a := ⟨h.size, fun t => conc_le hl _ _ (h.vals t), h.defers⟩
def putT (nt : Nat) (T : Tr Value) (dst : Option Tmp) (v : Value) : Option (Tr Value) :=
  match dst with
  | none => some T
  | some d => if d < nt then Tr.set 40 T d (some v) else none
theorem FRel.put {φ : Phi} {nt : Nat} {T T' : Tr Value} {a : Act} {dst : Option Tmp} {v V : Value} (h : FRel D φ nt T a) (ht : putT nt T dst v = some T') (hv : conc φ v = some V) : FRel D φ nt T' (a.put dst V) := by
  unfold putT at ht
  cases dst with
  | none => cases ht; exact h
  | some d =>
    simp only at ht
    split at ht
    · next hd =>
      refine ⟨by simp [Act.put, h.size], fun t => ?_, h.defers⟩
      rw [Tr.get_set _ _ _ _ _ ht]
      by_cases e : t = d
      · subst e
        have : t < a.tmps.size := by rw [h.size]; exact hd
        simp [Act.put, this, hv]
      · rw [if_neg e]
        have := h.vals t
        simp only [Act.put]
        rw [show (a.tmps.setIfInBounds d V).getD t undef = a.tmps.getD t undef by simp [Array.getElem?_setIfInBounds_ne (fun x => e x.symm)]]
        exact this
    · cases ht
end Ev
end Go.Proofs.YtifoekadjnlhcaaGreatDoor
noncomputable section
namespace Go.Proofs.YtifoekadjnlhcaaGreatDoor
open Go.RowKit
set_option linter.unusedVariables false
set_option linter.unusedSimpArgs false
namespace Ev
def keyOk (P : Program) : Nat → TypeId → Value → Bool
  | 0, _, _ => false
  | d + 1, t, v => match P.underlying t with
    | some (.struct fs) => match v with
      | .agg ⟨l⟩ => fs.toList.all fun f => match partV P f.type l f.offset with
        | some u => plainV u && keyOk P d f.type u
        | none => false
      | _ => false
    | some (.array _ _) => false
    | some (.interface _) => false
    | some _ => true
    | none => false
def findV (P : Program) (kt : TypeId) (k : Value) : List (Value × Value × Nat) → Nat → Option (Option (Nat × Value))
  | [], _ => some none
  | e :: es, i => match eqV P Op.maxDepth kt k e.1 with
    | some true => some (some (i, e.2.1))
    | some false => findV P kt k es (i + 1)
    | none => none
def loadV (P : Program) (H : Heap) (t : TypeId) (a : Value) : Option Value :=
  match a with
  | .pointer (some a) => match tAgg P t with
    | some true => match tSize P t with
      | some n => (H.load a.block a.off n).map fun l => .agg ⟨l⟩
      | none => none
    | some false => match H.load a.block a.off 1 with
      | some [v] => some v
      | _ => none
    | none => none
  | _ => none
def bytesV : List Value → Option (List UInt8)
  | [] => some []
  | .int .u8 n :: l => (bytesV l).map (UInt8.ofNat n.toNat :: ·)
  | _ => none
def strOfV (P : Program) (H : Heap) (s d : TypeId) (x : Value) : Option Value :=
  match P.underlying s, P.underlying d, x with
  | some (.slice e), some .string, .slice none _ _ => match P.underlying e with
    | some (.int .u8) => some (.string .empty)
    | _ => none
  | some (.slice e), some .string, .slice (some a) n _ => match P.underlying e with
    | some (.int .u8) => match a.spot, H.load a.block a.off n with
      | none, some l => (bytesV l).map fun b => .string ⟨⟨b⟩⟩
      | _, _ => none
    | _ => none
  | _, _, _ => none
def lookupV (P : Program) (H : Heap) (t : TypeId) (x ix : Value) (ok : Bool) : Option Value :=
  match P.underlying t with
  | some (.map key elem) =>
    if plainV ix && keyOk P 4 key ix then
      match (match x with
        | .map none => some none
        | .map (some r) => match H.get r with
          | some (.map es _) => findV P key ix es 0
          | _ => none
        | _ => none) with
      | some (some (_, v)) => some (if ok then .tuple ⟨[v, .bool true]⟩ else v)
      | some none => match (P.info? elem).bind (·.zero) with
        | some z => if plainV z then some (if ok then .tuple ⟨[z, .bool false]⟩ else z) else none
        | none => none
      | none => none
    else none
  | _ => none
def lenM (P : Program) (H : Heap) (t : TypeId) (x : Value) : Option Value :=
  match P.underlying t, x with
  | some (.map _ _), .map (some r) => match H.get r with
    | some (.map es _) => some (goInt es.length)
    | _ => none
  | _, _ => none
def evR (P : Program) (ρ : Operand → Option Value) (H : Heap) (op : Op) : Option Value :=
  match op with
  | .load t a => match ρ a with | some v => loadV P H t v | none => none
  | .convert s d x => match ρ x with | some v => strOfV P H s d v | none => none
  | .lookup t x ix ok => match ρ x, ρ ix with
    | some v, some k => lookupV P H t v k ok
    | _, _ => none
  | .call c => match c.callee with
    | .builtin .len => match c.args.toList, c.argTypes.toList with
      | [x], t :: _ => match ρ x with | some v => lenM P H t v | none => none
      | _, _ => none
    | _ => none
  | _ => none
section
variable {P : Program} {φ : Phi} {ρ : Operand → Option Value} {ev : Operand → Value}
theorem keyOk_run {b : Bool} : ∀ (d n : Nat) (t : TypeId) (v : Value), plainV v = true → keyOk P d t v = true → d ≤ n → RunsTo P (Instr.checkKey b n t v) ()
  | 0, _, _, _, _, h, _ => by simp [keyOk] at h
  | d + 1, 0, _, _, _, _, h => by omega
  | d + 1, n + 1, t, v, hp, h, hn => by
    intro w
    unfold keyOk at h
    unfold Instr.checkKey
    split at h
    · next fs hu =>
      rw [bind_ok (underlying_run hu)]
      split at h
      · next l =>
        simp only []
        have key : ∀ (fl : List Field), (∀ f ∈ fl, (match partV P f.type l f.offset with | some u => plainV u && keyOk P d f.type u | none => false) = true) →
            (forIn fl () fun f __s => do
              if f.name ≠ "_" then
                Instr.checkKey b n f.type (← part f.type l.toArray f.offset)
                pure (ForInStep.yield ())
              else pure (ForInStep.yield ()) : Sem Unit).run P w = .ok () w := by
          intro fl
          induction fl with
          | nil => intro _; rfl
          | cons f fl ih =>
            intro hall
            rw [List.forIn_cons]
            have hf := hall f (by simp)
            split at hf
            · next u hu' =>
              simp only [Bool.and_eq_true] at hf
              obtain ⟨U, g1, g2⟩ := partV_ok (φ := ⟨fun _ => none, fun _ => none⟩) hu' (concL_plain (by simpa [plainV] using hp))
              rw [conc_plainV hf.1] at g1; cases g1
              split
              · rw [run_bind, bind_ok (g2 w), bind_ok (keyOk_run d n f.type u hf.1 hf.2 (by omega) w)]
                exact ih fun g hg => hall g (by simp [hg])
              · rw [run_bind]
                exact ih fun g hg => hall g (by simp [hg])
            · cases hf
        have := key fs.toList (fun f hf => (List.all_eq_true.1 h) f hf)
        rw [Array.forIn_toList] at this
        exact (bind_ok this).trans rfl
      · cases h
    · cases h
    · cases h
    · next d' h1 h2 h3 hu =>
      rw [bind_ok (underlying_run hu)]
      cases d' <;> first | rfl | (exact absurd rfl (h1 _)) | (exact absurd rfl (h2 _ _)) | (exact absurd rfl (h3 _)) | (cases v <;> rfl)
    · cases h
theorem sameNow_eq {d : Nat} {kt : TypeId} {kd : TypeDesc} {x y Y : Value} {b : Bool} (hu : P.underlying kt = some kd) (h : eqV P (d + 1) kt x y = some b) (hy : conc φ y = some Y) :
    Instr.sameNow kd x Y = some b ∨ Instr.sameNow kd x Y = none := by
  unfold eqV at h
  rw [hu] at h
  cases kd
  case int ik =>
    cases x <;> cases y <;> try (simp at h; done)
    case int.int =>
      simp at h
      simp only [conc, Option.some.injEq] at hy; subst hy
      left
      simp only [Instr.sameNow, if_pos h.1, h.2]
    case int.float k a fk n =>
      cases fk
      · simp at h
      · cases k <;> try (simp at h; done)
        have h' : tokCmp .eql n a = some b := h
        obtain ⟨m, rfl, e⟩ := tokFlip_ok (op := .eql) h' (conc_tok hy) kt
        rw [cmp_eql] at e
        cases e
        exact .inl rfl
    all_goals exact .inr rfl
  case string =>
    cases x <;> cases y <;> try (simp at h; done)
    case string.string =>
      simp at h
      simp only [conc, Option.some.injEq] at hy; subst hy
      left
      simp only [Instr.sameNow, h]
    all_goals exact .inr rfl
  case bool =>
    cases x <;> cases y <;> simp at h
    simp only [conc, Option.some.injEq] at hy; subst hy
    left
    simp only [Instr.sameNow, h]
  all_goals exact .inr rfl
theorem find_run {kt : TypeId} {kd : TypeDesc} {k : Value} (hu : P.underlying kt = some kd) (hk : conc φ k = some k) : ∀ (es : List (Value × Value × Nat)) (en : List MapEntry) (i : Nat) (r : Option (Nat × Value)),
    en.length = es.length → (∀ (j : Nat) e, es[j]? = some e → ∃ m, en[j]? = some m ∧ entIn φ e m) → findV P kt k es i = some r →
    ∃ R, (∀ w, (Instr.findAsking kt k en i).run P w = .ok R w) ∧ (∀ s, Instr.findNow kd k en i = some s → s = R) ∧
      (match r with | none => R = none | some (j, v) => ∃ V m, R = some (j, V) ∧ conc φ v = some V ∧ i ≤ j ∧ en[j - i]? = some m ∧ m.val = V)
  | [], en, i, r, hl, _, h => by
    cases en with
    | nil => cases h; exact ⟨none, fun w => rfl, fun s hs => by cases hs; rfl, rfl⟩
    | cons => simp at hl
  | e :: es, en, i, r, hl, hall, h => by
    cases en with
    | nil => simp at hl
    | cons m en =>
      obtain ⟨m', hm, h1, h2, h3⟩ := hall 0 e rfl
      simp at hm; subst hm
      unfold findV at h
      split at h
      · next he =>
        cases h
        have hq := eqV_ok _ _ _ _ _ _ _ he hk h1
        refine ⟨some (i, m.val), fun w => ?_, fun s hs => ?_, m.val, m, rfl, h2, Nat.le_refl _, by simp, rfl⟩
        · unfold Instr.findAsking Op.equal
          rw [bind_ok (hq w)]; rfl
        · unfold Instr.findNow at hs
          have := sameNow_eq (d := 9999) hu he h1
          rcases this with h4 | h4 <;> rw [h4] at hs
          · cases hs; rfl
          · cases hs
      · next he =>
        have hq := eqV_ok _ _ _ _ _ _ _ he hk h1
        obtain ⟨R, g1, g2, g3⟩ := find_run hu hk es en (i + 1) r (by simpa using hl) (fun j e' hj => by simpa using hall (j + 1) e' (by simpa using hj)) h
        refine ⟨R, fun w => ?_, fun s hs => ?_, ?_⟩
        · unfold Instr.findAsking Op.equal
          rw [bind_ok (hq w)]; exact g1 w
        · unfold Instr.findNow at hs
          rcases sameNow_eq (d := 9999) hu he h1 with h4 | h4 <;> rw [h4] at hs
          · exact g2 s hs
          · cases hs
        · cases r with
          | none => exact g3
          | some p => obtain ⟨V, m2, e1, e2, e3, e4, e5⟩ := g3; exact ⟨V, m2, e1, e2, by omega, by rw [show p.1 - i = (p.1 - (i + 1)) + 1 by omega]; simpa using e4, e5⟩
      · cases h
end
end Ev
end Go.Proofs.YtifoekadjnlhcaaGreatDoor
noncomputable section
namespace Go.Proofs.YtifoekadjnlhcaaGreatDoor
open Go.RowKit
set_option linter.unusedVariables false
set_option linter.unusedSimpArgs false
namespace Ev
section
variable {P : Program} {φ : Phi} {ρ : Operand → Option Value} {ev : Operand → Value} {H : Heap} {w : World}
theorem concA_none {a A : Addr} (hs : a.spot = none) (h : concA φ a = some A) : ∃ B, φ.at_ a.block = some B ∧ A = ⟨B.blk, B.base + a.off, none⟩ := by
  unfold concA at h
  cases hb : φ.at_ a.block with
  | none => rw [hb] at h; cases h
  | some B => rw [hb, hs] at h; cases h; exact ⟨B, rfl, rfl⟩
theorem loadV_ok {t : TypeId} {x v X : Value} (hR : Rel φ H w) (h : loadV P H t x = some v) (hx : conc φ x = some X) : ∃ V, conc φ v = some V ∧ (Instr.loadAt t X).run P w = .ok V w := by
  unfold loadV at h
  split at h
  · next a =>
    obtain ⟨hs, A, hA, rfl⟩ := conc_ptr hx
    obtain ⟨B, hB, rfl⟩ := concA_none hs hA
    have start : (Instr.loadAt t (.pointer (some ⟨B.blk, B.base + a.off, none⟩))).run P w = (loadVar t ⟨B.blk, B.base + a.off, none⟩).run P w := by
      unfold Instr.loadAt; exact bind_ok (show (Instr.sureAddr _).run P w = .ok _ w from rfl)
    split at h
    · next hagg =>
      split at h
      · next n hn =>
        cases hl : H.load a.block a.off n with
        | none => rw [hl] at h; cases h
        | some vs =>
          rw [hl] at h; cases h
          obtain ⟨cs, el, fr, g1, g2, g3, g4⟩ := hR.load hl hB
          refine ⟨.agg (cs.extract (B.base + a.off) (B.base + a.off + n)), by simp only [conc, g4]; rfl, ?_⟩
          rw [start]; unfold loadVar
          rw [bind_ok (isAgg_run hagg)]
          simp only [if_true]
          rw [bind_ok (sizeOf_run hn), bind_ok (loadCells_run g1 g2)]; rfl
      · cases h
    · next hagg =>
      split at h
      · next u hl =>
        cases h
        obtain ⟨cs, el, fr, g1, g2, g3, g4⟩ := hR.load hl hB
        obtain ⟨y, g5, g6⟩ := concL_get g4 0 _ rfl
        refine ⟨y, g6, ?_⟩
        rw [start]; unfold loadVar
        rw [bind_ok (isAgg_run hagg)]
        simp only [Bool.false_eq_true, if_false]
        refine load_run ?_
        rw [cell_of g1]
        rw [Array.getElem?_toList, Array.getElem?_extract] at g5
        split at g5
        · simpa using g5
        · cases g5
      · cases h
    · cases h
  · cases h
theorem bytes_run : ∀ (vs : List Value) (b : List UInt8) (C : List Value) (s : ByteArray), bytesV vs = some b → concL φ vs = some C →
    ∀ w, (forIn C s fun (c : Value) (r : ByteArray) => match c with
      | .int .u8 n => (pure (ForInStep.yield (r.push (UInt8.ofNat n.toNat))) : Sem (ForInStep ByteArray))
      | x => do
        stuck "bytesToString: byte expected"
        pure (ForInStep.yield r) : Sem ByteArray).run P w = .ok ⟨⟨s.data.toList ++ b⟩⟩ w
  | [], b, C, s, hb, hC, w => by
    cases hb; simp [concL] at hC; subst hC
    simp only [List.forIn_nil, run_pure, List.append_nil]
  | v :: vs, b, C, s, hb, hC, w => by
    simp only [concL] at hC
    cases hv : conc φ v with
    | none => rw [hv] at hC; simp at hC
    | some V =>
      cases hvs : concL φ vs with
      | none => rw [hv, hvs] at hC; simp at hC
      | some VS =>
        rw [hv, hvs] at hC; simp at hC; subst hC
        unfold bytesV at hb
        split at hb
        · next he => cases he
        · next n l he =>
          cases he
          cases hbs : bytesV vs with
          | none => rw [hbs] at hb; cases hb
          | some bs =>
            rw [hbs] at hb; cases hb
            simp only [conc, Option.some.injEq] at hv; subst hv
            rw [List.forIn_cons]
            simp only []
            rw [bind_ok (run_pure P _ w)]
            have := bytes_run vs bs VS (s.push (UInt8.ofNat n.toNat)) hbs hvs w
            simp only []
            rw [this]
            congr 3
            simp [ByteArray.push]
        · cases hb
theorem strOfV_ok {s d : TypeId} {x v X : Value} (hR : Rel φ H w) (h : strOfV P H s d x = some v) (hx : conc φ x = some X) : ∃ V, conc φ v = some V ∧ (Go.convert s d X).run P w = .ok V w := by
  unfold strOfV at h
  split at h
  · next e n c h1 h2 =>
    split at h
    · next h3 =>
      cases h
      simp [conc] at hx; subst hx
      refine ⟨_, rfl, ?_⟩
      unfold Go.convert
      rw [bind_ok (underlying_run h1), bind_ok (underlying_run h2)]
      simp only []
      rw [bind_ok (underlying_run h3)]; rfl
    · cases h
  · next e a n c h1 h2 =>
    split at h
    · next h3 =>
      split at h
      · next l hs hl =>
        cases hb : bytesV l with
        | none => rw [hb] at h; cases h
        | some b =>
          rw [hb] at h; cases h
          obtain ⟨B, A, hB, hA, rfl⟩ := conc_slice hx
          obtain ⟨B', hB', rfl⟩ := concA_none hs hA
          rw [hB] at hB'; cases hB'
          obtain ⟨cs, el, fr, g1, g2, g3, g4⟩ := hR.load hl hB
          refine ⟨_, rfl, ?_⟩
          unfold Go.convert
          rw [bind_ok (underlying_run h1), bind_ok (underlying_run h2)]
          simp only []
          rw [bind_ok (underlying_run h3)]
          simp only []
          unfold Conv.bytesToString
          simp only []
          rw [bind_ok (loadCells_run g1 g2)]
          have := bytes_run (P := P) l b _ .empty hb g4 w
          rw [Array.forIn_toList] at this
          exact (bind_ok this).trans rfl
      · cases h
    · cases h
  · cases h
def lookRest (key elem : TypeId) (ix : Value) (ok : Bool) (es : Array MapEntry) : Sem Value := do
  Instr.checkKey es.isEmpty 10000 key ix
  match ← Instr.findKey key ix es.toList with
  | some (_, v) => do
    let x ← pure (v, true)
    pure (if ok then .tuple #[x.1, .bool x.2] else x.1)
  | none => do
    let z ← zeroValue elem
    let x ← pure (z, false)
    pure (if ok then .tuple #[x.1, .bool x.2] else x.1)
theorem findKey_run {key : TypeId} {ix : Value} {es : List (Value × Value × Nat)} {en : Array MapEntry} {r : Option (Nat × Value)} (hk : (plainV ix && keyOk P 4 key ix) = true) (hl : en.size = es.length) (hall : ∀ (j : Nat) e, es[j]? = some e → ∃ m, en[j]? = some m ∧ entIn φ e m)
    (hfv : findV P key ix es 0 = some r) : ∃ R, (Instr.findKey key ix en.toList).run P w = .ok R w ∧ (match r with | none => R = none | some (j, v) => ∃ V m, R = some (j, V) ∧ conc φ v = some V ∧ en[j]? = some m ∧ m.val = V) := by
  simp only [Bool.and_eq_true] at hk
  obtain ⟨kd, hkd⟩ : ∃ kd, P.underlying key = some kd := by
    cases hkd : P.underlying key with
    | some kd => exact ⟨kd, rfl⟩
    | none => have := hk.2; unfold keyOk at this; rw [hkd] at this; cases this
  obtain ⟨R, g1, g2, g3⟩ := find_run hkd (conc_plainV hk.1) es en.toList 0 r (by simpa using hl) (fun j e he => by simpa using hall j e he) hfv
  refine ⟨R, ?_, ?_⟩
  · unfold Instr.findKey
    rw [bind_ok (underlying_run hkd)]
    split
    · next s hs => rw [g2 s hs]; rfl
    · exact g1 w
  · cases r with
    | none => exact g3
    | some p => obtain ⟨V, m, e1, e2, _, e4, e5⟩ := g3; exact ⟨V, m, e1, e2, by simpa using e4, e5⟩
theorem lookRest_ok {key elem : TypeId} {ix v : Value} {ok : Bool} {es : List (Value × Value × Nat)} {en : Array MapEntry} {r : Option (Nat × Value)} (hk : (plainV ix && keyOk P 4 key ix) = true)
    (hl : en.size = es.length) (hall : ∀ (j : Nat) e, es[j]? = some e → ∃ m, en[j]? = some m ∧ entIn φ e m) (hfv : findV P key ix es 0 = some r)
    (h : (match r with
      | some (_, v) => some (if ok then .tuple ⟨[v, .bool true]⟩ else v)
      | none => match (P.info? elem).bind (·.zero) with
        | some z => if plainV z then some (if ok then .tuple ⟨[z, .bool false]⟩ else z) else none
        | none => none) = some v) : ∃ V, conc φ v = some V ∧ (lookRest key elem ix ok en).run P w = .ok V w := by
  obtain ⟨R, g1, g2⟩ := findKey_run (w := w) hk hl hall hfv
  simp only [Bool.and_eq_true] at hk
  unfold lookRest
  rw [bind_ok (keyOk_run 4 10000 key ix hk.1 hk.2 (by omega) w), bind_ok g1]
  cases r with
  | some p =>
    obtain ⟨j, u⟩ := p
    obtain ⟨V, m, rfl, g3, _⟩ := g2
    simp only [Option.some.injEq] at h; subst h
    refine ⟨if ok then .tuple #[V, .bool true] else V, ?_, ?_⟩
    · cases ok
      · exact g3
      · simp [conc, concL, g3]
    · rfl
  | none =>
    simp only at g2; subst g2
    simp only at h
    split at h
    · next z hz =>
      split at h
      · next hzp =>
        cases h
        have hzc : conc φ z = some z := conc_plainV hzp
        refine ⟨if ok then .tuple #[z, .bool false] else z, ?_, ?_⟩
        · cases ok
          · exact hzc
          · simp [conc, concL, hzc]
        · simp only []
          rw [bind_ok (zeroValue_run hz)]; rfl
      · cases h
    · cases h
theorem lookupV_ok {t : TypeId} {x ix v X I : Value} {ok : Bool} (hR : Rel φ H w) (h : lookupV P H t x ix ok = some v) (hx : conc φ x = some X) (hi : conc φ ix = some I) :
    ∃ V, conc φ v = some V ∧ (Instr.lookup t X I ok).run P w = .ok V w := by
  unfold lookupV at h
  split at h
  · next key elem hu =>
    split at h
    · next hk =>
      have hk' := hk
      simp only [Bool.and_eq_true] at hk'
      rw [conc_plainV hk'.1] at hi; cases hi
      cases x
      case map r =>
        cases r with
        | none =>
          simp [conc] at hx; subst hx
          have start : (Instr.lookup t (.map none) ix ok).run P w = (lookRest key elem ix ok #[]).run P w := by
            unfold Instr.lookup
            rw [bind_ok (underlying_run hu)]
            rfl
          rw [start]
          exact lookRest_ok (es := []) (r := none) hk rfl (by simp) rfl h
        | some r =>
          obtain ⟨B, hB, rfl⟩ := conc_map hx
          simp only at h
          cases hg : H.get r with
          | none => simp only [hg] at h; cases h
          | some o =>
            cases o
            case map es clock =>
              obtain ⟨c, hc, en, rfl, hsz, hall⟩ := hR.objs _ _ _ hg hB
              have start : (Instr.lookup t (.map (some B.blk)) ix ok).run P w = (lookRest key elem ix ok en).run P w := by
                unfold Instr.lookup
                rw [bind_ok (underlying_run hu)]
                simp only []
                have e : (getObj B.blk).run P w = .ok (.map en clock) w := by
                  unfold getObj; simp only [Sem.run, hc]
                rw [bind_ok e]; rfl
              rw [start]
              simp only [hg] at h
              cases hfv : findV P key ix es 0 with
              | none => rw [hfv] at h; cases h
              | some r' =>
                refine lookRest_ok hk hsz hall hfv ?_
                rw [hfv] at h
                cases r' with
                | none => exact h
                | some p => exact h
            all_goals (simp only [hg] at h; cases h)
      all_goals (simp only at h; cases h)
    · cases h
  · cases h
theorem evR_ok (hR : Rel φ H w) (hρ : ∀ x u, ρ x = some u → conc φ u = some (ev x)) {o : Oper} {v : Value} (h : evR P ρ H o.op = some v) : ∃ V, conc φ v = some V ∧ (execOp ev o).run P w = .ok (.value V) w := by
  have wrap : ∀ {s : Sem Value} {V : Value}, s.run P w = .ok V w → (do pure (Next.value (← s)) : Sem Next).run P w = .ok (.value V) w := fun h => by rw [bind_ok h]; rfl
  obtain ⟨dst, op, ty, pos, after, guard⟩ := o
  simp only at h
  unfold evR at h
  split at h
  · next t a =>
    split at h
    · next u hu => obtain ⟨V, h1, h2⟩ := loadV_ok hR h (hρ _ _ hu); exact ⟨V, h1, wrap h2⟩
    · cases h
  · next s d x =>
    split at h
    · next u hu => obtain ⟨V, h1, h2⟩ := strOfV_ok hR h (hρ _ _ hu); exact ⟨V, h1, wrap h2⟩
    · cases h
  · next t x ix ok =>
    split at h
    · next u k hu hk => obtain ⟨V, h1, h2⟩ := lookupV_ok hR h (hρ _ _ hu) (hρ _ _ hk); exact ⟨V, h1, wrap h2⟩
    · cases h
  · next c =>
    split at h
    · next hc =>
      split at h
      · next x t ts hx ht =>
        split at h
        · next u hu =>
          have hcu := hρ _ _ hu
          unfold lenM at h
          split at h
          · next k e r hund =>
            split at h
            · next es clock hg =>
              cases h
              obtain ⟨B, hB, he⟩ := conc_map hcu
              obtain ⟨cc, hcc, en, rfl, hsz, hall⟩ := hR.objs _ _ _ hg hB
              refine ⟨goInt es.length, rfl, ?_⟩
              have hargs : c.args.map ev = #[.map (some B.blk)] := by apply Array.toList_inj.1; simp [hx, he]
              have ht0 : c.argTypes[0]? = some t := by rw [← Array.getElem?_toList, ht]; rfl
              unfold execOp
              simp only
              unfold resolve
              rw [hc]
              simp only
              rw [bind_ok (run_pure P _ w)]
              show (do pure (Next.value (← Builtin.len_ c.argTypes ty (c.args.map ev))) : Sem Next).run P w = _
              rw [hargs]
              refine wrap (s := Builtin.len_ c.argTypes ty #[.map (some B.blk)]) ?_
              unfold Builtin.len_
              rw [ht0]
              show (Sem.bind (underlying t) _).run P w = _
              refine (bind_ok (underlying_run hund)).trans ?_
              show (Sem.bind (getObj B.blk) _).run P w = _
              simp only [getObj, Sem.bind, Sem.run, hcc]
              rw [hsz]; rfl
            · cases h
          · cases h
        · cases h
      · cases h
    · cases h
  · cases h
end
end Ev
end Go.Proofs.YtifoekadjnlhcaaGreatDoor
