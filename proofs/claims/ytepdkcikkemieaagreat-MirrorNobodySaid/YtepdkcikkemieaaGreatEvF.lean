/- THE ENGINE, 6: equality. -/
import Derived.Test.YtepdkcikkemieaaGreatEvE
noncomputable section
namespace Go.Proofs.YtepdkcikkemieaaGreat
open Go.RowKit
set_option linter.unusedVariables false
set_option linter.unusedSimpArgs false
namespace Ev

def eqFields (P : Program) (r : TypeId → Value → Value → Option Bool) : List Field → List Value → List Value → Option Bool
  | [], _, _ => some true
  | f :: fs, xs, ys =>
    if f.name ≠ "_" then
      match partV P f.type xs f.offset, partV P f.type ys f.offset with
      | some a, some b => match r f.type a b with
        | some true => eqFields P r fs xs ys
        | some false => some false
        | none => none
      | _, _ => none
    else eqFields P r fs xs ys
def eqElems (P : Program) (r : TypeId → Value → Value → Option Bool) (e : TypeId) (sz : Nat) : Nat → Nat → List Value → List Value → Option Bool
  | 0, _, _, _ => some true
  | n + 1, i, xs, ys =>
    match partV P e xs (i * sz), partV P e ys (i * sz) with
    | some a, some b => match r e a b with
      | some true => eqElems P r e sz n (i + 1) xs ys
      | some false => some false
      | none => none
    | _, _ => none
def eqV (P : Program) : Nat → TypeId → Value → Value → Option Bool
  | 0, _, _, _ => none
  | d + 1, t, x, y =>
    match P.underlying t, x, y with
    | some .bool, .bool a, .bool b => some (a == b)
    | some (.int _), .int k a, .int k' b => if k = k' then some (a == b) else none
    | some .string, .string a, .string b => some (a == b)
    | some (.pointer _), .pointer none, .pointer b => some b.isNone
    | some (.pointer _), .pointer (some _), .pointer none => some false
    | some (.interface _), .nilIface, .nilIface => some true
    | some (.interface _), .nilIface, .iface _ _ => some false
    | some (.interface _), .iface _ _, .nilIface => some false
    | some (.slice _), .slice none _ _, .slice b _ _ => some b.isNone
    | some (.slice _), .slice (some _) _ _, .slice none _ _ => some false
    | some (.map _ _), .map none, .map b => some b.isNone
    | some (.map _ _), .map (some _), .map none => some false
    | some (.func _ _ _), .nilFunc, .nilFunc => some true
    | some (.func _ _ _), .nilFunc, .func _ _ _ => some false
    | some (.func _ _ _), .func _ _ _, .nilFunc => some false
    | some (.struct fs), .agg ⟨xs⟩, .agg ⟨ys⟩ => if P.stoodInHeld t then none else eqFields P (eqV P d) fs.toList xs ys
    | some (.array n e), .agg ⟨xs⟩, .agg ⟨ys⟩ => match tSize P e with
      | some sz => eqElems P (eqV P d) e sz n 0 xs ys
      | none => none
    | some (.int _), .float .f64 n, .int .i64 a => tokCmp .eql n a
    | some (.int _), .int .i64 a, .float .f64 n => tokCmp .eql n a
    | some (.int _), .float .f64 n, .float .f64 m => if n = m ∧ (tokKind n).isSome then some true else none
    | some .string, .float .f64 n, .float .f64 m => if n = m ∧ n % 8 = 5 then some true else none
    | _, _, _ => none
section
variable {P : Program} {φ : Phi}
def RunsTo {α : Type} (P : Program) (s : Sem α) (a : α) : Prop := ∀ w, s.run P w = .ok a w
theorem fields_run {r : TypeId → Value → Value → Option Bool} {d : Nat} (hr : ∀ t x y b X Y, r t x y = some b → conc φ x = some X → conc φ y = some Y → RunsTo P (Op.equalIn d t X Y) b) :
    ∀ (fs : List Field) (xs ys X Y : List Value) (b : Bool), eqFields P r fs xs ys = some b → concL φ xs = some X → concL φ ys = some Y →
      RunsTo P (forIn fs ((none : Option Bool), ()) fun f __s => do
        if f.name ≠ "_" then
          let a ← part f.type X.toArray f.offset
          let b ← part f.type Y.toArray f.offset
          let c ← Op.equalIn d f.type a b
          if (!c) = true then pure (ForInStep.done (some false, ())) else pure (ForInStep.yield (none, ()))
        else pure (ForInStep.yield (none, ()))) (if b then (none, ()) else (some false, ()))
  | [], xs, ys, X, Y, b, h, hx, hy => by
    simp only [eqFields, Option.some.injEq] at h; subst h
    intro w; rfl
  | f :: fs, xs, ys, X, Y, b, h, hx, hy => by
    intro w
    rw [List.forIn_cons]
    unfold eqFields at h
    split at h
    · next hn =>
      split at h
      · next u v h1 h2 =>
        obtain ⟨U, g1, g2⟩ := partV_ok h1 hx
        obtain ⟨V, g3, g4⟩ := partV_ok h2 hy
        rw [if_pos hn]
        split at h
        · next hb =>
          have e1 := hr _ _ _ _ _ _ hb g1 g3
          rw [run_bind, bind_ok (g2 w), bind_ok (g4 w), bind_ok (e1 w)]
          exact fields_run hr fs xs ys X Y b h hx hy w
        · next hb =>
          cases h
          have e1 := hr _ _ _ _ _ _ hb g1 g3
          rw [run_bind, bind_ok (g2 w), bind_ok (g4 w), bind_ok (e1 w)]
          rfl
        · cases h
      · cases h
    · next hn =>
      rw [if_neg hn, run_bind]
      exact fields_run hr fs xs ys X Y b h hx hy w
theorem elems_run {r : TypeId → Value → Value → Option Bool} {d : Nat} (hr : ∀ t x y b X Y, r t x y = some b → conc φ x = some X → conc φ y = some Y → RunsTo P (Op.equalIn d t X Y) b) {e : TypeId} {sz : Nat} :
    ∀ (n i : Nat) (xs ys X Y : List Value) (b : Bool), eqElems P r e sz n i xs ys = some b → concL φ xs = some X → concL φ ys = some Y →
      RunsTo P (forIn (List.range' i n) ((none : Option Bool), ()) fun i __s => do
          let a ← part e X.toArray (i * sz)
          let b ← part e Y.toArray (i * sz)
          let c ← Op.equalIn d e a b
          if (!c) = true then pure (ForInStep.done (some false, ())) else pure (ForInStep.yield (none, ()))) (if b then (none, ()) else (some false, ()))
  | 0, i, xs, ys, X, Y, b, h, hx, hy => by
    simp only [eqElems, Option.some.injEq] at h; subst h
    intro w; rfl
  | n + 1, i, xs, ys, X, Y, b, h, hx, hy => by
    intro w
    rw [List.range'_succ, List.forIn_cons]
    unfold eqElems at h
    split at h
    · next u v h1 h2 =>
      obtain ⟨U, g1, g2⟩ := partV_ok h1 hx
      obtain ⟨V, g3, g4⟩ := partV_ok h2 hy
      split at h
      · next hb =>
        have e1 := hr _ _ _ _ _ _ hb g1 g3
        rw [run_bind, bind_ok (g2 w), bind_ok (g4 w), bind_ok (e1 w)]
        exact elems_run hr n (i + 1) xs ys X Y b h hx hy w
      · next hb =>
        cases h
        have e1 := hr _ _ _ _ _ _ hb g1 g3
        rw [run_bind, bind_ok (g2 w), bind_ok (g4 w), bind_ok (e1 w)]
        rfl
      · cases h
    · cases h
theorem conc_tok {n : Nat} {x : Value} (h : conc φ (.float .f64 n) = some x) : tok φ.env n = some x := by
  simp only [conc] at h
  split at h
  · next y hy => split at h
                 · cases h; exact hy
                 · cases h
  · cases h
theorem conc_ptr {a : Addr} {x : Value} (h : conc φ (.pointer (some a)) = some x) : a.spot = none ∧ ∃ a', concA φ a = some a' ∧ x = .pointer (some a') := by
  simp only [conc] at h
  split at h
  · cases h
  · next hs =>
    refine ⟨by simpa using hs, ?_⟩
    cases hc : concA φ a with
    | none => rw [hc] at h; cases h
    | some a' => rw [hc] at h; cases h; exact ⟨a', rfl, rfl⟩
theorem conc_slice {a : Addr} {n c : Nat} {x : Value} (h : conc φ (.slice (some a) n c) = some x) : ∃ b a', φ.at_ a.block = some b ∧ concA φ a = some a' ∧ x = .slice (some a') n (if c < BIG then c else c - BIG + b.exc) := by
  simp only [conc] at h
  split at h
  · next b a' h1 h2 => cases h; exact ⟨b, a', h1, h2, rfl⟩
  · cases h
theorem conc_map {r : Nat} {x : Value} (h : conc φ (.map (some r)) = some x) : ∃ b, φ.at_ r = some b ∧ x = .map (some b.blk) := by
  simp only [conc] at h
  cases hc : φ.at_ r with
  | none => rw [hc] at h; cases h
  | some b => rw [hc] at h; cases h; exact ⟨b, rfl, rfl⟩
theorem conc_iface {t : TypeId} {v x : Value} (h : conc φ (.iface t v) = some x) : ∃ u, conc φ v = some u ∧ x = .iface t u := by
  simp only [conc] at h
  cases hc : conc φ v with
  | none => rw [hc] at h; cases h
  | some b => rw [hc] at h; cases h; exact ⟨b, rfl, rfl⟩
theorem conc_func {fn : Fn} {a b : Array Value} {x : Value} (h : conc φ (.func fn a b) = some x) : ∃ f A B, fn = .func f ∧ concL φ a.toList = some A ∧ concL φ b.toList = some B ∧ x = .func (.func f) A.toArray B.toArray := by
  obtain ⟨a⟩ := a
  obtain ⟨b⟩ := b
  cases fn <;> simp only [conc] at h <;> try cases h
  split at h
  · next f A B h1 h2 => cases h; exact ⟨_, A, B, rfl, h1, h2, rfl⟩
  · cases h
theorem bytes_self (c : ByteArray) : (c == c) = true := by
  obtain ⟨d⟩ := c
  first | (exact beq_self_eq_true _) | (show (d == d) = true; exact beq_self_eq_true _)
theorem eqV_ok : ∀ (d : Nat) (t : TypeId) (x y : Value) (b : Bool) (X Y : Value), eqV P d t x y = some b → conc φ x = some X → conc φ y = some Y → RunsTo P (Op.equalIn d t X Y) b
  | 0, t, x, y, b, X, Y, h, hx, hy => by simp [eqV] at h
  | d + 1, t, x, y, b, X, Y, h, hx, hy => by
    have IH := eqV_ok d
    intro w
    unfold eqV at h
    unfold Op.equalIn
    split at h
    all_goals (try (rename_i hu; rw [bind_ok (underlying_run hu)]))
    all_goals try cases h
    · simp only [conc, Option.some.injEq] at hx hy; subst hx hy; rfl
    · simp only [conc, Option.some.injEq] at hx hy; subst hx hy
      split at h
      · next hk => cases h; simp only [hk, if_true]; rfl
      · cases h
    · simp only [conc, Option.some.injEq] at hx hy; subst hx hy; rfl
    · simp only [conc, Option.some.injEq] at hx; subst hx
      rename_i bb
      cases bb with
      | none => simp only [conc, Option.some.injEq] at hy; subst hy; rfl
      | some a => obtain ⟨_, a', _, rfl⟩ := conc_ptr hy; rfl
    · simp only [conc, Option.some.injEq] at hy; subst hy
      obtain ⟨_, a', _, rfl⟩ := conc_ptr hx; rfl
    · simp only [conc, Option.some.injEq] at hx hy; subst hx hy; rfl
    · simp only [conc, Option.some.injEq] at hx; subst hx
      obtain ⟨u, _, rfl⟩ := conc_iface hy; rfl
    · simp only [conc, Option.some.injEq] at hy; subst hy
      obtain ⟨u, _, rfl⟩ := conc_iface hx; rfl
    · simp only [conc, Option.some.injEq] at hx; subst hx
      rename_i bb _ _
      cases bb with
      | none => simp only [conc, Option.some.injEq] at hy; subst hy; rfl
      | some a => obtain ⟨b, a', _, _, rfl⟩ := conc_slice hy; rfl
    · simp only [conc, Option.some.injEq] at hy; subst hy
      obtain ⟨b, a', _, _, rfl⟩ := conc_slice hx; rfl
    · simp only [conc, Option.some.injEq] at hx; subst hx
      rename_i bb
      cases bb with
      | none => simp only [conc, Option.some.injEq] at hy; subst hy; rfl
      | some a => obtain ⟨b, _, rfl⟩ := conc_map hy; rfl
    · simp only [conc, Option.some.injEq] at hy; subst hy
      obtain ⟨b, _, rfl⟩ := conc_map hx; rfl
    · simp only [conc, Option.some.injEq] at hx hy; subst hx hy; rfl
    · simp only [conc, Option.some.injEq] at hx; subst hx
      obtain ⟨f, A, B, _, _, _, rfl⟩ := conc_func hy; rfl
    · simp only [conc, Option.some.injEq] at hy; subst hy
      obtain ⟨f, A, B, _, _, _, rfl⟩ := conc_func hx; rfl
    · split at h
      · cases h
      · next hs =>
        obtain ⟨xs, hX, rfl⟩ := conc_agg hx
        obtain ⟨ys, hY, rfl⟩ := conc_agg hy
        simp only [program]
        rw [run_bind]
        simp only [Sem.run, hs, Bool.false_eq_true, if_false]
        have hh := fields_run (d := d) (fun t x y b X Y h hx hy => IH t x y b X Y h hx hy) _ _ _ _ _ _ h hX hY w
        rw [Array.forIn_toList] at hh
        rw [bind_ok hh]
        cases b <;> rfl
    · split at h
      · next sz hsz =>
        obtain ⟨xs, hX, rfl⟩ := conc_agg hx
        obtain ⟨ys, hY, rfl⟩ := conc_agg hy
        simp only []
        rw [bind_ok (sizeOf_run hsz)]
        have hh := elems_run (d := d) (fun t x y b X Y h hx hy => IH t x y b X Y h hx hy) _ _ _ _ _ _ _ h hX hY w
        rw [Std.Legacy.Range.forIn_eq_forIn_range']
        simp only [Std.Legacy.Range.size, Nat.sub_zero, Nat.add_sub_cancel, Nat.div_one]
        rw [bind_ok hh]
        cases b <;> rfl
      · cases h
    · obtain ⟨m, rfl, e⟩ := tokCmp_ok h (conc_tok hx) t
      simp only [conc, Option.some.injEq] at hy; subst hy
      rw [cmp_eql] at e
      cases e; rfl
    · obtain ⟨m, rfl, e⟩ := tokFlip_ok (op := .eql) h (conc_tok hy) t
      simp only [conc, Option.some.injEq] at hx; subst hx
      rw [cmp_eql] at e
      cases e; rfl
    · split at h
      · next hc =>
        cases h
        obtain ⟨rfl, hk⟩ := hc
        obtain ⟨k, hk⟩ := Option.isSome_iff_exists.1 hk
        have hx' := conc_tok hx
        obtain ⟨c, rfl⟩ := tok_int hk hx'
        rw [hx] at hy; cases hy
        simp
      · cases h
    · split at h
      · next hc =>
        cases h
        obtain ⟨rfl, hk⟩ := hc
        obtain ⟨c, _, rfl, _⟩ := tok_str hk (conc_tok hx)
        rw [hx] at hy; cases hy
        have hc : (c == c) = true := bytes_self c
        simp [hc]
      · cases h
end
end Ev
end Go.Proofs.YtepdkcikkemieaaGreat
