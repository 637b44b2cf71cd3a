/- A REGION THAT DRAWS ITS ORDER: most operations read, or call what only makes memory (QUIET), some make a block (NEW), and the last ones (LOUD) are forced, one behind the other; a mere copy may come up beside a loud one. One walk of the quiet operations serves every order. (After the guide's Deep/Quiet, StillTail and Orders, whose small laws on orders are used.) -/
import Derived.Test.YtepdkcikkemieaaGreatLib
import Derived.StillTail
namespace Go.Proofs.YtepdkcikkemieaaGreat
open Go.RowKit
set_option linter.unusedVariables false
set_option linter.unusedSimpArgs false

theorem put_val {a : Act} {d : Option Tmp} {v v' : Value} (h : d.isSome = true → v = v') : a.put d v = a.put d v' := by
  cases d with
  | none => rfl
  | some d => rw [h rfl]

section
variable {P : Program} {ops : Array Oper} {md : Region.Mode} {σ : Type} {Cl : σ → World → Prop} {vs : Nat → Value} {isN isL : Nat → Bool} {S' : Nat → σ → σ → Prop} {g : Nat → σ → Value} {Q' : Exit → Act → World → Prop}

def qop (P : Program) (ops : Array Oper) (Cl : σ → World → Prop) (vs : Nat → Value) (j : Nat) (o : Oper) (a : Act) : Prop :=
  (Region.wanted o (yielded ops a.tmps) = true ∧ ∀ s, ∃ v, (o.dst.isSome = true → v = vs j) ∧ ∀ w, Cl s w → o.quietAt P a (Cl s) w v) ∨
  (Region.wanted o (yielded ops a.tmps) = false ∧ (o.dst.isSome = true → undef = vs j))

def newop (P : Program) (ops : Array Oper) (Cl : σ → World → Prop) (S' : Nat → σ → σ → Prop) (g : Nat → σ → Value) (i : Nat) (o : Oper) (a : Act) : Prop :=
  Region.wanted o (yielded ops a.tmps) = true ∧ ∀ s w, Cl s w → ∃ s' w', S' i s s' ∧ (execOp a.eval o).run P w = .ok (.value (g i s')) w' ∧ Cl s' w'

theorem qop_put {j : Nat} {oi oj : Oper} (hap : oi.apart ops oj = true) (hsi : ∀ cs b, oi.op ≠ .select cs b) {a : Act} (i : Nat) (u : Value) : qop P ops Cl vs i oi (a.put oj.dst u) ↔ qop P ops Cl vs i oi a := by
  obtain ⟨h1, h2, h3⟩ := Oper.apart_spec hap
  unfold qop Oper.quietAt
  rw [wanted_put oi a oj.dst u h3, execOp_put oi hsi a oj.dst u h3]
theorem qop_put' {oi oj : Oper} (hap : oi.apart ops oj = true) (hsj : ∀ cs b, oj.op ≠ .select cs b) {a : Act} (j : Nat) (u : Value) : qop P ops Cl vs j oj (a.put oi.dst u) ↔ qop P ops Cl vs j oj a := by
  obtain ⟨h1, h2, h3⟩ := Oper.apart_spec hap
  unfold qop Oper.quietAt
  rw [wanted_put oj a oi.dst u h1, execOp_put oj hsj a oi.dst u h1]
theorem newop_put {oi oj : Oper} (hap : oi.apart ops oj = true) (hsi : ∀ cs b, oi.op ≠ .select cs b) {a : Act} (i : Nat) (u : Value) : newop P ops Cl S' g i oi (a.put oj.dst u) ↔ newop P ops Cl S' g i oi a := by
  obtain ⟨h1, h2, h3⟩ := Oper.apart_spec hap
  unfold newop
  rw [wanted_put oi a oj.dst u h3, execOp_put oi hsi a oj.dst u h3]
theorem newop_put' {oi oj : Oper} (hap : oi.apart ops oj = true) (hsj : ∀ cs b, oj.op ≠ .select cs b) {a : Act} (j : Nat) (u : Value) : newop P ops Cl S' g j oj (a.put oi.dst u) ↔ newop P ops Cl S' g j oj a := by
  obtain ⟨h1, h2, h3⟩ := Oper.apart_spec hap
  unfold newop
  rw [wanted_put oj a oi.dst u h1, execOp_put oj hsj a oi.dst u h1]

/-! A mere copy: it yields its value in whatever world. -/
def copies (o : Oper) : Bool := o.dst.isSome && match o.op with | .move _ | .assign _ | .extract _ _ => true | _ => false
theorem run_copies {o : Oper} (h : copies o = true) (a : Act) : (∃ v, ∀ w, (execOp a.eval o).run P w = .ok (.value v) w) ∨ (∃ x, ∀ w, (execOp a.eval o).run P w = .halt x w) := by
  unfold copies at h
  simp only [Bool.and_eq_true] at h
  obtain ⟨_, h⟩ := h
  obtain ⟨dst, op, ty, pos, after, guard⟩ := o
  cases op <;> simp at h
  case move x => exact .inl ⟨_, fun w => rfl⟩
  case assign x => exact .inl ⟨_, fun w => rfl⟩
  case extract x k hd =>
    show (∃ v, ∀ w, (Sem.bind (Instr.extract (a.eval x) k) fun v => Sem.pure (Next.value v)).run P w = .ok (.value v) w) ∨ (∃ y, ∀ w, (Sem.bind (Instr.extract (a.eval x) k) fun v => Sem.pure (Next.value v)).run P w = .halt y w)
    unfold Instr.extract
    split
    · split
      · exact .inl ⟨_, fun w => rfl⟩
      · exact .inr ⟨_, fun w => rfl⟩
    · exact .inr ⟨_, fun w => rfl⟩
theorem yields_of_qop {o : Oper} {i : Nat} {a : Act} (hc : copies o = true) (s : σ) (w : World) (hw : Cl s w) (h : qop P ops Cl vs i o a) : Yields P ops o (vs i) a := by
  have hd : o.dst.isSome = true := by unfold copies at hc; simp only [Bool.and_eq_true] at hc; exact hc.1
  rcases h with ⟨hwant, hv⟩ | ⟨hwant, hv⟩
  · refine .inl ⟨hwant, fun w' => ?_⟩
    obtain ⟨v, hvv, hall⟩ := hv s
    have hq := hall w hw
    unfold Oper.quietAt at hq
    rcases run_copies (P := P) hc a with ⟨u, hu⟩ | ⟨x, hx⟩
    · rw [hu] at hq ⊢
      obtain ⟨_, rfl⟩ := hq
      rw [hvv hd]
    · rw [hx] at hq
      exact hq.elim
  · exact .inr ⟨hwant, (hv hd).symm⟩

/-! What waits for what. -/
structure Shut' (md : Region.Mode) (ops : Array Oper) (listed : Array Bool) : Prop where
  size : listed.size = ops.size
  closed : ∀ j oj, ops[j]? = some oj → listed.getD j false = true → ∀ e ∈ oj.after, Region.binds md e = true → listed.getD e.on false = true
theorem Shut'.set {i : Nat} {listed : Array Bool} (inv : Shut' md ops listed) (hi : i ∈ Region.ready md ops listed) : Shut' md ops (listed.setIfInBounds i true) := by
  obtain ⟨_, oi, hoi, hall⟩ := mem_ready.1 hi
  refine ⟨by simp [inv.size], fun j oj hj hl e he hb => ?_⟩
  by_cases hij : i = j
  · subst hij
    have : oj = oi := Option.some.inj (hj.symm.trans hoi)
    subst this
    exact getD_set_true (hall e he hb)
  · rw [getD_set_ne false hij] at hl
    exact getD_set_true (inv.closed j oj hj hl e he hb)
def dep (md : Region.Mode) (ops : Array Oper) : Nat → Nat → Nat → Bool
  | 0, _, _ => false
  | f + 1, j, i => match ops[j]? with
    | some oj => oj.after.any fun e => Region.binds md e && (e.on == i || dep md ops f e.on i)
    | none => false
theorem dep_listed {listed : Array Bool} (inv : Shut' md ops listed) {i : Nat} : ∀ (f j : Nat) (oj : Oper), dep md ops f j i = true → ops[j]? = some oj → (∀ e ∈ oj.after, Region.binds md e = true → listed.getD e.on false = true) → listed.getD i false = true
  | 0, _, _, h, _, _ => by simp [dep] at h
  | f + 1, j, oj, h, hj, hall => by
    unfold dep at h
    simp only [hj] at h
    obtain ⟨e, he, hb⟩ := Array.any_eq_true'.1 h
    simp only [Bool.and_eq_true, Bool.or_eq_true, beq_iff_eq] at hb
    obtain ⟨hb, hon⟩ := hb
    have hl := hall e he hb
    rcases hon with hon | hon
    · rw [← hon]; exact hl
    · have hex : ∃ oe, ops[e.on]? = some oe := by
        cases hoe : ops[e.on]? with
        | some oe => exact ⟨oe, rfl⟩
        | none =>
          have : dep md ops f e.on i = false := by cases f <;> simp [dep, hoe]
          rw [this] at hon; cases hon
      obtain ⟨oe, hoe⟩ := hex
      exact dep_listed inv f e.on oe hon hoe (inv.closed e.on oe hoe hl)
theorem not_ready {listed : Array Bool} (inv : Shut' md ops listed) {i j f : Nat} (hd : dep md ops f j i = true) (hi : listed.getD i true = false) : j ∉ Region.ready md ops listed := fun hj => by
  obtain ⟨_, oj, hoj, hall⟩ := mem_ready.1 hj
  have := dep_listed inv f j oj hd hoj hall
  rw [getD_both hi] at this
  cases this

/-- One operation comes up. -/
def mOp (P : Program) (ops : Array Oper) (Cl : σ → World → Prop) (vs : Nat → Value) (isN isL : Nat → Bool) (S' : Nat → σ → σ → Prop) (g : Nat → σ → Value) (Q' : Exit → Act → World → Prop) (i : Nat) (K : σ → Act → Prop) (KL : Act → World → Prop) (s : σ) (a : Act) : Prop :=
  ∃ o, ops[i]? = some o ∧ (isN i = false → isL i = false → qop P ops Cl vs i o a ∧ K s (a.put o.dst (vs i))) ∧
    (isN i = true → newop P ops Cl S' g i o a ∧ ∀ s', S' i s s' → K s' (a.put o.dst (g i s'))) ∧ (isN i = false → isL i = true → ∀ w, Cl s w → wpOp P ops Q' i KL a w)

def wpAnyM (P : Program) (md : Region.Mode) (ops : Array Oper) (Cl : σ → World → Prop) (vs : Nat → Value) (isN isL : Nat → Bool) (S' : Nat → σ → σ → Prop) (g : Nat → σ → Value) (Q' : Exit → Act → World → Prop) : Nat → Array Bool → σ → Act → Prop
  | 0, listed, s, a => Region.ready md ops listed = [] ∧ ∀ w, Cl s w → Q' .normal a w
  | f + 1, listed, s, a => (Region.ready md ops listed = [] → ∀ w, Cl s w → Q' .normal a w) ∧
    ∀ i ∈ Region.ready md ops listed, mOp P ops Cl vs isN isL S' g Q' i (wpAnyM P md ops Cl vs isN isL S' g Q' f (listed.setIfInBounds i true)) (wpAny P md ops Q' f (listed.setIfInBounds i true)) s a

theorem wpAny_of_M : ∀ (f : Nat) (listed : Array Bool) (s : σ) (a : Act) (w : World), Cl s w → wpAnyM P md ops Cl vs isN isL S' g Q' f listed s a → wpAny P md ops Q' f listed a w := by
  intro f
  induction f with
  | zero => intro listed s a w hw h; exact ⟨h.1, h.2 w hw⟩
  | succ f ih =>
    intro listed s a w hw h
    refine ⟨fun h0 => h.1 h0 w hw, fun i hi => ?_⟩
    obtain ⟨o, ho, hq, hn, hl⟩ := h.2 i hi
    cases hN : isN i with
    | true =>
      obtain ⟨⟨hwant, hrun⟩, hK⟩ := hn hN
      obtain ⟨s', w', hs', hr, hw'⟩ := hrun s w hw
      unfold wpOp
      simp only [ho, hwant, if_true]
      refine .inl ?_
      unfold Oper.wp
      rw [hr]
      exact ih _ _ _ _ hw' (hK s' hs')
    | false =>
      cases hL : isL i with
      | true => exact hl hN hL w hw
      | false =>
        obtain ⟨hqo, hK⟩ := hq hN hL
        refine wpOp_of_qOp (C := Cl s) (K := fun a' => wpAnyM P md ops Cl vs isN isL S' g Q' f (listed.setIfInBounds i true) s a') hw (fun a' w' hw' h' => ih _ _ _ _ hw' h') ?_
        unfold qOp
        simp only [ho]
        rcases hqo with ⟨hwant, hv⟩ | ⟨hwant, hv⟩
        · simp only [hwant, if_true]
          obtain ⟨v, hvv, hall⟩ := hv s
          exact ⟨v, hall, by rw [put_val hvv]; exact hK⟩
        · simp only [hwant, Bool.false_eq_true, if_false]
          rw [put_val hv]; exact hK

/-- No loud operation may come up ahead of i. -/
def before' (md : Region.Mode) (ops : Array Oper) (isN isL : Nat → Bool) (i : Nat) : Bool := (List.range ops.size).all fun j => isN j || !isL j || dep md ops ops.size j i

theorem M_first_q {i : Nat} {oi : Oper} (hi : ops[i]? = some oi) (hN : isN i = false) (hL : isL i = false) (hsel : ∀ (j : Nat) (o : Oper) cs b, ops[j]? = some o → o.op ≠ .select cs b)
    (hb : copies oi = true ∨ before' md ops isN isL i = true) (hQ : ∀ c a d v w, Q' (.panic c) (a.put d v) w → Q' (.panic c) a w) :
    ∀ (f : Nat) (listed : Array Bool) (s : σ) (a : Act), Shut' md ops listed →
      (∀ j oj, ops[j]? = some oj → j ≠ i → listed.getD j true = false → (∀ e ∈ oj.after, Region.binds md e = true → e.on ≠ i) → oi.apart ops oj = true) →
      i ∈ Region.ready md ops listed → qop P ops Cl vs i oi a →
      wpAnyM P md ops Cl vs isN isL S' g Q' f (listed.setIfInBounds i true) s (a.put oi.dst (vs i)) → wpAnyM P md ops Cl vs isN isL S' g Q' (f + 1) listed s a := by
  intro f
  induction f with
  | zero =>
    intro listed s a inv _ hr hy H
    refine ⟨fun h => (by rw [h] at hr; cases hr), fun j hj => ?_⟩
    by_cases hji : j = i
    · subst hji; exact ⟨oi, hi, fun _ _ => ⟨hy, H⟩, fun h => (by rw [hN] at h; cases h), fun _ h => (by rw [hL] at h; cases h)⟩
    · have := ready_mono hj hji
      rw [H.1] at this
      cases this
  | succ f ih =>
    intro listed s a inv hfree hr hy H
    have hun := (mem_ready.1 hr).1
    refine ⟨fun h => (by rw [h] at hr; cases hr), fun j hj => ?_⟩
    by_cases hji : j = i
    · subst hji; exact ⟨oi, hi, fun _ _ => ⟨hy, H⟩, fun h => (by rw [hN] at h; cases h), fun _ h => (by rw [hL] at h; cases h)⟩
    · obtain ⟨oj', hoj', h1q, h1n, h1l⟩ := H.2 j (ready_mono hj hji)
      obtain ⟨hjun, oj, hoj, hall⟩ := mem_ready.1 hj
      obtain rfl : oj' = oj := Option.some.inj (hoj'.symm.trans hoj)
      have hnot : ∀ e ∈ oj'.after, Region.binds md e = true → e.on ≠ i := fun e he hb heq => by
        have h1 := hall e he hb
        rw [heq, getD_both hun] at h1
        cases h1
      have hap := hfree j oj' hoj hji hjun hnot
      obtain ⟨p1, p2, p3⟩ := Oper.apart_spec hap
      have hfree' : ∀ k ok, ops[k]? = some ok → k ≠ i → (listed.setIfInBounds j true).getD k true = false →
          (∀ e ∈ ok.after, Region.binds md e = true → e.on ≠ i) → oi.apart ops ok = true := fun k ok hk hki hun hno => by
        refine hfree k ok hk hki ?_ hno
        by_cases hjk : j = k
        · subst hjk; exact hjun
        · rw [getD_set_ne true hjk] at hun; exact hun
      refine ⟨oj', hoj, fun hjN hjL => ?_, fun hjN => ?_, fun hjN hjL w hw => ?_⟩
      · obtain ⟨hqj, hKj⟩ := h1q hjN hjL
        refine ⟨(qop_put' hap (fun cs b => hsel j oj' cs b hoj) j (vs i)).1 hqj, ?_⟩
        refine ih (listed.setIfInBounds j true) s _ (inv.set hj) hfree' (ready_mono hr (Ne.symm hji)) ((qop_put (j := j) hap (fun cs b => hsel i oi cs b hi) i _).2 hy) ?_
        rw [Array.setIfInBounds_comm _ _ hji, ← Act.put_comm a _ _ p2]
        exact hKj
      · obtain ⟨hnj, hKj⟩ := h1n hjN
        refine ⟨(newop_put' hap (fun cs b => hsel j oj' cs b hoj) j (vs i)).1 hnj, fun s' hs' => ?_⟩
        refine ih (listed.setIfInBounds j true) s' _ (inv.set hj) hfree' (ready_mono hr (Ne.symm hji)) ((qop_put (j := j) hap (fun cs b => hsel i oi cs b hi) i _).2 hy) ?_
        rw [Array.setIfInBounds_comm _ _ hji, ← Act.put_comm a _ _ p2]
        exact hKj s' hs'
      · rcases hb with hc | hb
        · have hY := yields_of_qop hc s w hw hy
          have h2 := wpOp_put hoj hap (fun cs b => hsel i oi cs b hi) (fun cs b => hsel j oj' cs b hoj) (fun c a w => hQ c a oi.dst (vs i) w) hY (h1l hjN hjL w hw)
          refine wpOp_mono (fun a' w' h3 => wpAny_first hi hsel (fun c a w => hQ c a oi.dst (vs i) w) f (listed.setIfInBounds j true) a' w' hfree' (ready_mono hr (Ne.symm hji)) h3.1 ?_) h2
          rw [Array.setIfInBounds_comm _ _ hji]
          exact h3.2
        · have h2 := List.all_eq_true.1 hb j (List.mem_range.2 (Array.getElem?_eq_some_iff.1 hoj).1)
          rw [hjN, hjL] at h2
          exact absurd hj (not_ready inv (by simpa using h2) hun)

theorem M_first_n {i : Nat} {oi : Oper} (hi : ops[i]? = some oi) (hN : isN i = true) (hsel : ∀ (j : Nat) (o : Oper) cs b, ops[j]? = some o → o.op ≠ .select cs b)
    (hb : before' md ops isN isL i = true) (hne : ∀ i s, isN i = true → ∃ s', S' i s s')
    (hcomm : ∀ i j s s1 s2, isN i = true → isN j = true → i ≠ j → S' j s s1 → S' i s1 s2 → ∃ s1', S' i s s1' ∧ S' j s1' s2 ∧ g j s1 = g j s2 ∧ g i s1' = g i s2) :
    ∀ (f : Nat) (listed : Array Bool) (s : σ) (a : Act), Shut' md ops listed →
      (∀ j oj, ops[j]? = some oj → j ≠ i → listed.getD j true = false → (∀ e ∈ oj.after, Region.binds md e = true → e.on ≠ i) → oi.apart ops oj = true) →
      i ∈ Region.ready md ops listed → newop P ops Cl S' g i oi a →
      (∀ s', S' i s s' → wpAnyM P md ops Cl vs isN isL S' g Q' f (listed.setIfInBounds i true) s' (a.put oi.dst (g i s'))) → wpAnyM P md ops Cl vs isN isL S' g Q' (f + 1) listed s a := by
  intro f
  induction f with
  | zero =>
    intro listed s a inv _ hr hy H
    obtain ⟨sx, hsx⟩ := hne i s hN
    refine ⟨fun h => (by rw [h] at hr; cases hr), fun j hj => ?_⟩
    by_cases hji : j = i
    · subst hji; exact ⟨oi, hi, fun h => (by rw [hN] at h; cases h), fun _ => ⟨hy, H⟩, fun h => (by rw [hN] at h; cases h)⟩
    · have := ready_mono hj hji
      rw [(H sx hsx).1] at this
      cases this
  | succ f ih =>
    intro listed s a inv hfree hr hy H
    have hun := (mem_ready.1 hr).1
    refine ⟨fun h => (by rw [h] at hr; cases hr), fun j hj => ?_⟩
    by_cases hji : j = i
    · subst hji; exact ⟨oi, hi, fun h => (by rw [hN] at h; cases h), fun _ => ⟨hy, H⟩, fun h => (by rw [hN] at h; cases h)⟩
    · obtain ⟨hjun, oj, hoj, hall⟩ := mem_ready.1 hj
      have hnot : ∀ e ∈ oj.after, Region.binds md e = true → e.on ≠ i := fun e he hb heq => by
        have h1 := hall e he hb
        rw [heq, getD_both hun] at h1
        cases h1
      have hap := hfree j oj hoj hji hjun hnot
      obtain ⟨p1, p2, p3⟩ := Oper.apart_spec hap
      have hfree' : ∀ k ok, ops[k]? = some ok → k ≠ i → (listed.setIfInBounds j true).getD k true = false →
          (∀ e ∈ ok.after, Region.binds md e = true → e.on ≠ i) → oi.apart ops ok = true := fun k ok hk hki hun hno => by
        refine hfree k ok hk hki ?_ hno
        by_cases hjk : j = k
        · subst hjk; exact hjun
        · rw [getD_set_ne true hjk] at hun; exact hun
      refine ⟨oj, hoj, fun hjN hjL => ?_, fun hjN => ?_, fun hjN hjL w hw => ?_⟩
      · have get : ∀ s', S' i s s' → qop P ops Cl vs j oj (a.put oi.dst (g i s')) ∧ wpAnyM P md ops Cl vs isN isL S' g Q' f ((listed.setIfInBounds i true).setIfInBounds j true) s' ((a.put oi.dst (g i s')).put oj.dst (vs j)) := fun s' hs' => by
          obtain ⟨oj', hoj', h1q, _⟩ := (H s' hs').2 j (ready_mono hj hji)
          obtain rfl : oj' = oj := Option.some.inj (hoj'.symm.trans hoj)
          exact h1q hjN hjL
        obtain ⟨sx, hsx⟩ := hne i s hN
        refine ⟨(qop_put' hap (fun cs b => hsel j oj cs b hoj) j (g i sx)).1 (get sx hsx).1, ?_⟩
        refine ih (listed.setIfInBounds j true) _ _ (inv.set hj) hfree' (ready_mono hr (Ne.symm hji)) ((newop_put hap (fun cs b => hsel i oi cs b hi) i _).2 hy) fun s' hs' => ?_
        rw [Array.setIfInBounds_comm _ _ hji, ← Act.put_comm a _ _ p2]
        exact (get s' hs').2
      · have get : ∀ s', S' i s s' → newop P ops Cl S' g j oj (a.put oi.dst (g i s')) ∧ ∀ s'', S' j s' s'' → wpAnyM P md ops Cl vs isN isL S' g Q' f ((listed.setIfInBounds i true).setIfInBounds j true) s'' ((a.put oi.dst (g i s')).put oj.dst (g j s'')) := fun s' hs' => by
          obtain ⟨oj', hoj', _, h1n, _⟩ := (H s' hs').2 j (ready_mono hj hji)
          obtain rfl : oj' = oj := Option.some.inj (hoj'.symm.trans hoj)
          exact h1n hjN
        obtain ⟨sx, hsx⟩ := hne i s hN
        refine ⟨(newop_put' hap (fun cs b => hsel j oj cs b hoj) j (g i sx)).1 (get sx hsx).1, fun s1 hs1 => ?_⟩
        refine ih (listed.setIfInBounds j true) _ _ (inv.set hj) hfree' (ready_mono hr (Ne.symm hji)) ((newop_put hap (fun cs b => hsel i oi cs b hi) i _).2 hy) fun s2 hs2 => ?_
        obtain ⟨s1', c1, c2, c3, c4⟩ := hcomm i j s s1 s2 hN hjN (Ne.symm hji) hs1 hs2
        rw [Array.setIfInBounds_comm _ _ hji, ← Act.put_comm a _ _ p2, c3, ← c4]
        exact (get s1' c1).2 s2 c2
      · have h2 := List.all_eq_true.1 hb j (List.mem_range.2 (Array.getElem?_eq_some_iff.1 hoj).1)
        rw [hjN, hjL] at h2
        exact absurd hj (not_ready inv (by simpa using h2) hun)

/-- In an order that is given, the quiet ones; then Z. -/
def wpOrd (P : Program) (ops : Array Oper) (Cl : σ → World → Prop) (vs : Nat → Value) (Z : Act → Prop) : List Nat → Act → Prop
  | [], a => Z a
  | i :: rest, a => ∃ o, ops[i]? = some o ∧ qop P ops Cl vs i o a ∧ wpOrd P ops Cl vs Z rest (a.put o.dst (vs i))
/-- The new ones. -/
def wpNews (P : Program) (ops : Array Oper) (Cl : σ → World → Prop) (S' : Nat → σ → σ → Prop) (g : Nat → σ → Value) (Z : σ → Act → Prop) : List Nat → σ → Act → Prop
  | [], s, a => Z s a
  | i :: rest, s, a => ∃ o, ops[i]? = some o ∧ newop P ops Cl S' g i o a ∧ ∀ s', S' i s s' → wpNews P ops Cl S' g Z rest s' (a.put o.dst (g i s'))

/-- The Bool over an order: the quiet and new ones; then all that may come up is loud. -/
def ordB (md : Region.Mode) (ops : Array Oper) (isN isL : Nat → Bool) (E : Array Bool → Bool) : List Nat → Array Bool → Bool
  | [], listed => (Region.ready md ops listed).all (fun j => !isN j && isL j) && E listed
  | i :: rest, listed => (isN i || !isL i) && ((!isN i && match ops[i]? with | some o => copies o | none => false) || before' md ops isN isL i) && (Region.ready md ops listed).contains i && Region.free md ops listed i && ordB md ops isN isL E rest (listed.setIfInBounds i true)

theorem M_end {f : Nat} {listed : Array Bool} {s : σ} {a : Act} (hB : (Region.ready md ops listed).all (fun j => !isN j && isL j) = true) (h : ∀ w, Cl s w → wpAny P md ops Q' f listed a w) (hw : ∃ w, Cl s w) : wpAnyM P md ops Cl vs isN isL S' g Q' f listed s a := by
  cases f with
  | zero =>
    obtain ⟨w, hw⟩ := hw
    exact ⟨(h w hw).1, fun w hw => (h w hw).2⟩
  | succ f =>
    refine ⟨fun h0 w hw => (h w hw).1 h0, fun i hi => ?_⟩
    have hb := List.all_eq_true.1 hB i hi
    simp only [Bool.and_eq_true, Bool.not_eq_true'] at hb
    obtain ⟨_, o, ho, _⟩ := mem_ready.1 hi
    exact ⟨o, ho, fun _ h => (by rw [hb.2] at h; cases h), fun h => (by rw [hb.1] at h; cases h), fun _ _ w hw => (h w hw).2 i hi⟩

theorem M_news {f : Nat} {E : Array Bool → Bool} {T : σ → Act → Prop} (hsel : Region.noSelect ops = true) (hne : ∀ i s, isN i = true → ∃ s', S' i s s')
    (hcomm : ∀ i j s s1 s2, isN i = true → isN j = true → i ≠ j → S' j s s1 → S' i s1 s2 → ∃ s1', S' i s s1' ∧ S' j s1' s2 ∧ g j s1 = g j s2 ∧ g i s1' = g i s2) (hCl : ∀ s, ∃ w, Cl s w)
    (hT : ∀ listed s a w, E listed = true → Cl s w → T s a → wpAny P md ops Q' f listed a w) :
    ∀ (ns : List Nat) (listed : Array Bool) (s : σ) (a : Act), (∀ i ∈ ns, isN i = true) → Shut' md ops listed → ordB md ops isN isL E ns listed = true →
    wpNews P ops Cl S' g T ns s a → wpAnyM P md ops Cl vs isN isL S' g Q' (ns.length + f) listed s a
  | [], listed, s, a, _, inv, hB, h => by
    simp only [ordB, Bool.and_eq_true] at hB
    rw [show [].length + f = f from Nat.zero_add f]
    exact M_end hB.1 (fun w hw => hT listed s a w hB.2 hw h) (hCl s)
  | i :: ns, listed, s, a, hq, inv, hB, h => by
    simp only [ordB, Bool.and_eq_true] at hB
    obtain ⟨⟨⟨⟨_, hb⟩, hr⟩, hf⟩, hB'⟩ := hB
    obtain ⟨o, ho, hqo, hK⟩ := h
    have hN := hq i (by simp)
    have hr' : i ∈ Region.ready md ops listed := by simpa using hr
    rw [show (i :: ns).length + f = (ns.length + f) + 1 by simp; omega]
    refine M_first_n ho hN (Region.noSelect_spec hsel) (by rw [hN] at hb; simpa using hb) hne hcomm _ listed s a inv (Region.free_spec ho hf) hr' hqo fun s' hs' => ?_
    exact M_news hsel hne hcomm hCl hT ns _ _ _ (fun j hj => hq j (by simp [hj])) (inv.set hr') hB' (hK s' hs')

theorem M_all {f : Nat} {E : Array Bool → Bool} {T : σ → Act → Prop} (hsel : Region.noSelect ops = true) (hne : ∀ i s, isN i = true → ∃ s', S' i s s')
    (hcomm : ∀ i j s s1 s2, isN i = true → isN j = true → i ≠ j → S' j s s1 → S' i s1 s2 → ∃ s1', S' i s s1' ∧ S' j s1' s2 ∧ g j s1 = g j s2 ∧ g i s1' = g i s2) (hCl : ∀ s, ∃ w, Cl s w)
    (hQ : ∀ c a d v w, Q' (.panic c) (a.put d v) w → Q' (.panic c) a w)
    (hT : ∀ listed s a w, E listed = true → Cl s w → T s a → wpAny P md ops Q' f listed a w) (ns : List Nat) (hns : ∀ i ∈ ns, isN i = true) :
    ∀ (qs : List Nat) (listed : Array Bool) (s : σ) (a : Act), (∀ i ∈ qs, isN i = false) → Shut' md ops listed → ordB md ops isN isL E (qs ++ ns) listed = true →
    wpOrd P ops Cl vs (fun a => wpNews P ops Cl S' g T ns s a) qs a → wpAnyM P md ops Cl vs isN isL S' g Q' (qs.length + (ns.length + f)) listed s a
  | [], listed, s, a, _, inv, hB, h => by
    rw [show [].length + (ns.length + f) = ns.length + f from Nat.zero_add _]
    exact M_news hsel hne hcomm hCl hT ns listed s a hns inv hB h
  | i :: qs, listed, s, a, hq, inv, hB, h => by
    simp only [List.cons_append, ordB, Bool.and_eq_true] at hB
    obtain ⟨⟨⟨⟨hl, hb⟩, hr⟩, hf⟩, hB'⟩ := hB
    obtain ⟨o, ho, hqo, hK⟩ := h
    have hN := hq i (by simp)
    have hL : isL i = false := by rw [hN] at hl; simpa using hl
    have hr' : i ∈ Region.ready md ops listed := by simpa using hr
    rw [show (i :: qs).length + (ns.length + f) = (qs.length + (ns.length + f)) + 1 by simp; omega]
    refine M_first_q ho hN hL (Region.noSelect_spec hsel) (by simpa [hN, ho] using hb) hQ _ listed s a inv (Region.free_spec ho hf) hr' hqo ?_
    exact M_all hsel hne hcomm hCl hQ hT ns hns qs _ s _ (fun j hj => hq j (by simp [hj])) (inv.set hr') hB' hK
end

/-! ### From the guide's walk of the reading operations -/
theorem put_slot (a : Act) (d : Tmp) (v : Value) (h : d < a.tmps.size) : (a.put (some d) v).tmps.getD d undef = v := by
  simp [Act.put, h]
theorem put_other (a : Act) (x : Option Tmp) (d : Tmp) (v : Value) (h : x ≠ some d) : (a.put x v).tmps.getD d undef = a.tmps.getD d undef := by
  cases x with
  | none => rfl
  | some e =>
    have : e ≠ d := fun h' => h (by rw [h'])
    simp [Act.put, Array.getElem?_setIfInBounds_ne this]
theorem put_size (a : Act) (x : Option Tmp) (v : Value) : (a.put x v).tmps.size = a.tmps.size := by cases x <;> simp [Act.put]
theorem quiet_slot {P : Program} {ops : Array Oper} {C : World → Prop} {aE : Act} {d : Tmp} : ∀ (l : List Oper) (a : Act), (∀ o ∈ l, o.dst ≠ some d) → wpQuiet P ops C (fun a' => a' = aE) l a → aE.tmps.getD d undef = a.tmps.getD d undef
  | [], a, _, h => by have h' : a = aE := h; rw [h']
  | o :: l, a, hd, h => by
    unfold wpQuiet at h
    split at h
    · obtain ⟨v, _, h⟩ := h
      rw [quiet_slot l _ (fun o' ho' => hd o' (by simp [ho'])) h, put_other _ _ _ _ (hd o (by simp))]
    · rw [quiet_slot l _ (fun o' ho' => hd o' (by simp [ho'])) h, put_other _ _ _ _ (hd o (by simp))]
def dstB (m : Nat) : List Oper → Bool
  | [] => true
  | o :: l => (match o.dst with | some d => decide (d < m) && l.all fun o' => o'.dst != some d | none => true) && dstB m l
def slotOf (ops : Array Oper) (aE : Act) (j : Nat) : Value := match (ops[j]?).bind (·.dst) with | some d => aE.tmps.getD d undef | none => undef
theorem ord_of_quiet {P : Program} {ops : Array Oper} {σ : Type} {Cl : σ → World → Prop} (s1 : σ) {Z : Act → Prop} {aE : Act} (hZ : Z aE) : ∀ (qs : List Nat) (l : List Oper) (a : Act), qs.map (fun i => ops[i]?) = l.map some → dstB a.tmps.size l = true →
    (∀ s, wpQuiet P ops (Cl s) (fun a' => a' = aE) l a) → wpOrd P ops Cl (slotOf ops aE) Z qs a
  | [], [], a, _, _, h => by have h' : a = aE := h s1; rw [wpOrd, h']; exact hZ
  | [], _ :: _, _, hm, _, _ => by simp at hm
  | _ :: _, [], _, hm, _, _ => by simp at hm
  | i :: qs, o :: l, a, hm, hd, h => by
    simp only [List.map_cons, List.cons.injEq] at hm
    simp only [dstB, Bool.and_eq_true] at hd
    obtain ⟨hd1, hd2⟩ := hd
    have slot : ∀ (s : σ) (v : Value), wpQuiet P ops (Cl s) (fun a' => a' = aE) l (a.put o.dst v) → o.dst.isSome = true → v = slotOf ops aE i := fun s v hq hs => by
      cases hdst : o.dst with
      | none => rw [hdst] at hs; cases hs
      | some d =>
        rw [hdst] at hd1 hq
        simp only [Bool.and_eq_true, decide_eq_true_eq, List.all_eq_true, bne_iff_ne] at hd1
        have h1 := quiet_slot l _ (fun o' ho' => hd1.2 o' ho') hq
        rw [put_slot _ _ _ hd1.1] at h1
        unfold slotOf
        rw [hm.1]
        simp only [Option.bind_some, hdst]
        exact h1.symm
    refine ⟨o, hm.1, ?_, ?_⟩
    · by_cases hw : Region.wanted o (yielded ops a.tmps) = true
      · refine .inl ⟨hw, fun s => ?_⟩
        have hs := h s
        unfold wpQuiet at hs
        simp only [hw, if_true] at hs
        obtain ⟨v, hv, hr⟩ := hs
        exact ⟨v, slot s v hr, hv⟩
      · have hw' : Region.wanted o (yielded ops a.tmps) = false := by simpa using hw
        refine .inr ⟨hw', fun hs => ?_⟩
        have hr := h s1
        unfold wpQuiet at hr
        simp only [hw', Bool.false_eq_true, if_false] at hr
        exact slot s1 undef hr hs
    · refine ord_of_quiet s1 hZ qs l _ hm.2 (by rw [put_size]; exact hd2) fun s => ?_
      have hs := h s
      unfold wpQuiet at hs
      split at hs
      · obtain ⟨v, hv, hr⟩ := hs
        rw [← put_val (slot s v hr)]; exact hr
      · rw [← put_val (slot s undef hs)]; exact hs


/-! ### The theorems that are used -/
def pickl (l : List Oper) (qs : List Nat) : List Oper := qs.filterMap fun i => l[i]?
/-- The marked ones. -/
def sel : List Bool → List Oper → List Oper
  | true :: b, o :: l => o :: sel b l
  | false :: b, _ :: l => sel b l
  | _, _ => []
theorem sel_t (b : List Bool) (o : Oper) (l : List Oper) : sel (true :: b) (o :: l) = o :: sel b l := by rw [sel]
theorem sel_f (b : List Bool) (o : Oper) (l : List Oper) : sel (false :: b) (o :: l) = sel b l := by rw [sel]
theorem sel_n (l : List Oper) : sel [] l = [] := by rw [sel]; all_goals intros; simp_all
def seqT (md : Region.Mode) (ops : Array Oper) : List Nat → Array Bool → Bool
  | [], listed => (Region.ready md ops listed).isEmpty
  | t :: ts, listed => decide (Region.ready md ops listed = [t]) && seqT md ops ts (listed.setIfInBounds t true)
theorem wpAny_of_seqT {P : Program} {md : Region.Mode} {l : List Oper} {Q' : Exit → Act → World → Prop} : ∀ (ts : List Nat) (listed : Array Bool) (a : Act) (w : World),
    seqT md l.toArray ts listed = true → wpList P l.toArray Q' (pickl l ts) a w → wpAny P md l.toArray Q' ts.length listed a w
  | [], _, _, _, hB, h => ⟨by simpa [seqT] using hB, h⟩
  | t :: ts, listed, a, w, hB, h => by
    simp only [seqT, Bool.and_eq_true, decide_eq_true_eq] at hB
    have ht : t ∈ Region.ready md l.toArray listed := by rw [hB.1]; simp
    obtain ⟨_, o, ho, _⟩ := mem_ready.1 ht
    have ho' : l[t]? = some o := by simpa using ho
    refine ⟨fun h1 => (by rw [hB.1] at h1; cases h1), fun i hi => ?_⟩
    rw [hB.1] at hi
    obtain rfl : i = t := by simpa using hi
    unfold pickl at h
    rw [List.filterMap_cons, ho'] at h
    have hw : wpOp P l.toArray Q' i (wpList P l.toArray Q' (pickl l ts)) a w := by unfold wpOp; simp only [ho]; exact h
    exact wpOp_mono (fun a' w' h' => wpAny_of_seqT ts _ a' w' hB.2 h') hw
theorem pick_map (l : List Oper) : ∀ (qs : List Nat), qs.all (fun i => decide (i < l.length)) = true → qs.map (fun i => l.toArray[i]?) = (pickl l qs).map some
  | [], _ => rfl
  | i :: qs, h => by
    simp only [List.all_cons, Bool.and_eq_true, decide_eq_true_eq] at h
    have hi : l[i]? = some l[i] := List.getElem?_eq_getElem h.1
    have ih := pick_map l qs h.2
    unfold pickl at ih ⊢
    rw [List.filterMap_cons, hi]
    simp only [List.getElem?_toArray] at ih
    simp only [List.map_cons, List.getElem?_toArray, hi, ih]
def regB (l : List Oper) (qs ns ts : List Nat) (m : Nat) : Bool :=
  Region.noSelect l.toArray && ordB .any l.toArray (fun i => ns.contains i) (fun i => ts.contains i) (seqT .any l.toArray ts) (qs ++ ns) (Array.replicate l.toArray.size false) &&
    dstB m (pickl l qs) && decide (qs.length + (ns.length + ts.length) = l.length) && qs.all (fun i => !ns.contains i) && qs.all (fun i => decide (i < l.length))
theorem shut0 (l : List Oper) : Shut' .any l.toArray (Array.replicate l.toArray.size false) :=
  ⟨by simp, fun j oj _ hl => (by rw [getD_replicate_false] at hl; cases hl)⟩

/-- **A region that draws its order: the operations qs read (or call what only makes memory), number i0 makes a block, ts are forced.** -/
theorem wp_region_new {P : Program} {id : Nat} {Q : Exit → Act → World → Prop} {a : Act} {w : World} {L : List (Array Obj)} {k : Nat} {l : List Oper} (qs : List Nat) (i0 d : Nat) (ts : List Nat) (bq bt : List Bool) (G : Nat → Value) (obj : Obj) (hsel' : pickl l qs = sel bq l ∧ pickl l ts = sel bt l)
    (hm : P.follows .mixedOrders = true) (hB : regB l qs [i0] ts a.tmps.size = true) (hQ : ∀ c a d v w, Q (.panic c) (a.put d v) w → Q (.panic c) a w) (ho : ∃ op ty pos after, l[i0]? = some ⟨some d, op, ty, pos, after, none⟩)
    (h : ∃ aE : Act, (∀ E : Array Obj, wpQuiet P l.toArray (fun w' => ∃ m : Ext, w' = wd w (m.e :: E :: L) m.n) (fun a' => a' = aE) (sel bq l) a) ∧
      (∀ o, l[i0]? = some o → ∀ w' : World, (execOp aE.eval o).run P w' = .ok (.value (G w'.heap.size)) (w'.alloc obj)) ∧
      (∀ (e : Array Obj) (m : Ext), wpList P l.toArray Q (sel bt l) (aE.put (some d) (G (sz w.heap.size (e.size :: shape L)))) (wd w (m.e :: #[obj] :: e :: L) m.n))) :
    (Code.region id l.toArray true).wp P Q a (wd w L k) := by
  rw [← hsel'.1, ← hsel'.2] at h
  obtain ⟨aE, h1, hrun, h2⟩ := h
  simp only [regB, Bool.and_eq_true, decide_eq_true_eq] at hB
  obtain ⟨⟨⟨⟨⟨hsel, hord⟩, hdst⟩, hlen⟩, hne⟩, hlt⟩ := hB
  obtain ⟨op, ty, pos, after, ho⟩ := ho
  have hN : ∀ i, ([i0].contains i) = true ↔ i = i0 := fun i => by simp
  refine wp_region_any hm ?_
  have H := M_all (P := P) (md := .any) (ops := l.toArray) (σ := Array Obj) (Cl := fun E w' => ∃ m : Ext, w' = wd w (m.e :: E :: L) m.n) (vs := slotOf l.toArray aE) (isN := fun i => [i0].contains i) (isL := fun i => ts.contains i)
    (S' := fun _ E E' => ∃ e, E' = E ++ e ++ #[obj]) (g := fun _ E => G (sz w.heap.size ((E.size - 1) :: shape L))) (Q' := Q) (f := ts.length) (E := seqT .any l.toArray ts)
    (T := fun E a' => ∀ m : Ext, wpList P l.toArray Q (pickl l ts) a' (wd w (m.e :: E :: L) m.n))
    hsel (fun i E _ => ⟨_, #[], rfl⟩) (fun i j s s1 s2 hi hj hij => absurd (((hN i).1 hi).trans ((hN j).1 hj).symm) hij) (fun E => ⟨_, ⟨#[], 0⟩, rfl⟩) hQ
    (fun listed s a' w' hE hw' hT => by obtain ⟨m, rfl⟩ := hw'; exact wpAny_of_seqT ts listed a' _ hE (hT m)) [i0] (fun i hi => by simpa using hi)
    qs _ #[] a (fun i hi => by simpa using List.all_eq_true.1 hne i hi) (shut0 l) hord
    (ord_of_quiet #[] (by
      refine ⟨_, by simpa using ho, ⟨by simp [Region.wanted], fun E w' hw' => ?_⟩, fun E hE m => ?_⟩
      · obtain ⟨m, rfl⟩ := hw'
        refine ⟨(E ++ m.e ++ #[obj]), _, ⟨m.e, rfl⟩, ?_, ⟨⟨#[], m.n⟩, rfl⟩⟩
        have e2 : wd w (#[] :: (E ++ m.e ++ #[obj]) :: L) m.n = wd w (#[obj] :: m.e :: E :: L) m.n := by rw [wd_empty, wd_merge, wd_merge, Array.append_assoc]
        rw [hrun _ ho, wd_alloc, wd_size, shape_cons, shape_cons]
        show _ = Result.ok _ (wd w (#[] :: (E ++ m.e ++ #[obj]) :: L) m.n)
        rw [e2]
        simp [sz, Nat.add_assoc]
      · obtain ⟨e, rfl⟩ := hE
        have e1 : wd w (m.e :: (#[] ++ e ++ #[obj]) :: L) m.n = wd w (m.e :: #[obj] :: e :: L) m.n := by
          rw [wd_merge, wd_merge, wd_merge, Array.append_assoc, Array.empty_append]
        rw [e1]
        have := h2 e m
        simpa using this) _ _ _ (pick_map l qs hlt) hdst h1)
  have := wpAny_of_M _ _ _ _ (wd w L (k + 1)) ⟨⟨#[], k + 1⟩, by rw [wd_empty, wd_empty]⟩ H
  rw [show qs.length + ([i0].length + ts.length) = l.toArray.size by simpa using hlen] at this
  exact this

/-- **A region that draws its order: the operations qs read (or call what only makes memory), ts are forced.** -/
theorem wp_region_tail {P : Program} {id : Nat} {Q : Exit → Act → World → Prop} {a : Act} {w : World} {L : List (Array Obj)} {k : Nat} {l : List Oper} (qs ts : List Nat) (bq bt : List Bool) (hsel' : pickl l qs = sel bq l ∧ pickl l ts = sel bt l)
    (hm : P.follows .mixedOrders = true) (hB : regB l qs [] ts a.tmps.size = true) (hQ : ∀ c a d v w, Q (.panic c) (a.put d v) w → Q (.panic c) a w)
    (h : ∃ aE : Act, wpQuiet P l.toArray (fun w' => ∃ m : Ext, w' = wd w (m.e :: L) m.n) (fun a' => a' = aE) (sel bq l) a ∧
      ∀ (m : Ext), wpList P l.toArray Q (sel bt l) aE (wd w (m.e :: L) m.n)) :
    (Code.region id l.toArray true).wp P Q a (wd w L k) := by
  rw [← hsel'.1, ← hsel'.2] at h
  obtain ⟨aE, h1, h2⟩ := h
  simp only [regB, Bool.and_eq_true, decide_eq_true_eq] at hB
  obtain ⟨⟨⟨⟨⟨hsel, hord⟩, hdst⟩, hlen⟩, hne⟩, hlt⟩ := hB
  refine wp_region_any hm ?_
  have H := M_all (P := P) (md := .any) (ops := l.toArray) (σ := Unit) (Cl := fun _ w' => ∃ m : Ext, w' = wd w (m.e :: L) m.n) (vs := slotOf l.toArray aE) (isN := fun i => [].contains i) (isL := fun i => ts.contains i)
    (S' := fun _ _ _ => True) (g := fun _ _ => undef) (Q' := Q) (f := ts.length) (E := seqT .any l.toArray ts)
    (T := fun _ a' => ∀ m : Ext, wpList P l.toArray Q (pickl l ts) a' (wd w (m.e :: L) m.n))
    hsel (fun i E hi => by simp at hi) (fun i j s s1 s2 hi => by simp at hi) (fun E => ⟨_, ⟨#[], 0⟩, rfl⟩) hQ
    (fun listed s a' w' hE hw' hT => by obtain ⟨m, rfl⟩ := hw'; exact wpAny_of_seqT ts listed a' _ hE (hT m)) [] (fun i hi => by simp at hi)
    qs _ () a (fun i hi => by simp) (shut0 l) hord
    (ord_of_quiet () h2 _ _ _ (pick_map l qs hlt) hdst (fun _ => h1))
  have := wpAny_of_M _ _ _ _ (wd w L (k + 1)) ⟨⟨#[], k + 1⟩, by rw [wd_empty]⟩ H
  rw [show qs.length + (([] : List Nat).length + ts.length) = l.toArray.size by simpa using hlen] at this
  exact this
theorem put_lit (l : List Value) (ds : List Deferred) (d : Tmp) (v : Value) : (Act.mk l.toArray ds).put (some d) v = ⟨(l.set d v).toArray, ds⟩ := by simp [Act.put]
end Go.Proofs.YtepdkcikkemieaaGreat
