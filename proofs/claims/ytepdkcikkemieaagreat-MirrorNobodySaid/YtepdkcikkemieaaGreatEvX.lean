/- THE ENGINE, 24: a region that draws its order, by a plan. -/
import Derived.Test.YtepdkcikkemieaaGreatEvW
noncomputable section
namespace Go.Proofs.YtepdkcikkemieaaGreat
open Go.RowKit
set_option linter.unusedVariables false
set_option linter.unusedSimpArgs false
namespace Ev
variable {D : List Deferred} {rd : Option Nat}

def cntU (listed : Array Bool) (n : Nat) : Nat := (List.range n).countP fun i => !listed.getD i false
theorem cntU_succ (listed : Array Bool) (n : Nat) : cntU listed (n + 1) = cntU listed n + if listed.getD n false then 0 else 1 := by
  unfold cntU
  rw [List.range_succ, List.countP_append]
  congr 1
  rw [List.countP_singleton]
  cases listed.getD n false <;> rfl
theorem getD_self {listed : Array Bool} {i : Nat} (h : i < listed.size) : (listed.setIfInBounds i true).getD i false = true := by
  simp [Array.getD_eq_getD_getElem?, h]
theorem getD_other {listed : Array Bool} {i j : Nat} (h : i ≠ j) : (listed.setIfInBounds i true).getD j false = listed.getD j false := by
  simp [Array.getD_eq_getD_getElem?, Array.getElem?_setIfInBounds_ne h]
theorem cntU_set {listed : Array Bool} {i : Nat} (hi : i < listed.size) (hl : listed.getD i false = false) : ∀ n, i < n → cntU (listed.setIfInBounds i true) n + 1 = cntU listed n
  | 0, h => by omega
  | n + 1, h => by
    rw [cntU_succ, cntU_succ]
    by_cases hin : i = n
    · subst hin
      rw [getD_self hi, hl]
      have : ∀ m, m ≤ i → cntU (listed.setIfInBounds i true) m = cntU listed m := by
        intro m
        induction m with
        | zero => intro _; rfl
        | succ m ih => intro hm; rw [cntU_succ, cntU_succ, ih (by omega), getD_other (by omega)]
      rw [this i (Nat.le_refl _)]; simp
    · have := cntU_set hi hl n (by omega)
      rw [getD_other hin]; omega
theorem cntU_zero {listed : Array Bool} : ∀ n, cntU listed n = 0 → ∀ i, i < n → listed.getD i false = true
  | 0, _, i, h => by omega
  | n + 1, h0, i, h => by
    rw [cntU_succ] at h0
    by_cases hin : i = n
    · subst hin
      cases hl : listed.getD i false with
      | true => rfl
      | false => rw [hl] at h0; simp at h0
    · exact cntU_zero n (by omega) i (by omega)
section
variable {P : Program} {callF : Caller} {ops : Array Oper} {T0 : Tr Value} {H0 : Heap} {nt : Nat}
/-- Some order has come so far. -/
structure Inv (D : List Deferred) (s : PS) (A : Nat → Heap) (ops : Array Oper) (T0 : Tr Value) (H0 : Heap) (nt : Nat) (φ0 : Phi) (w0 : World) (listed : Array Bool) (m : Nat) (φ : Phi) (a : Act) (w : World) : Prop where
  ml : m ≤ s.l
  effs : ∀ f ∈ s.hist, isEff f.r = true → (listed.getD f.i false = true ↔ f.l ≤ m)
  rel : Rel φ (A m) w
  step : Step φ0 H0 w0 φ (A m) w
  ph : ∀ e ∈ s.hist, e.l ≤ m → ∀ id ob, e.r = .made id ob → listed.getD e.i false = false → φ.at_ id = none
  lt : ∀ e ∈ s.hist, e.l ≤ m → ∀ id ob, e.r = .made id ob → H0.next ≤ id ∧ id < (A m).next
  ds : ∀ e ∈ s.hist, ∀ e' ∈ s.hist, e.l ≤ m → e'.l ≤ m → ∀ id ob ob', e.r = .made id ob → e'.r = .made id ob' → e.i = e'.i
  size : a.tmps.size = nt
  defers : a.defers = D
  w1 : ∀ e ∈ s.hist, listed.getD e.i false = true → ∀ o, ops[e.i]? = some o → ∀ d, o.dst = some d → conc φ e.v = some (a.tmps.getD d undef)
  w2 : ∀ t, (∀ e ∈ s.hist, listed.getD e.i false = true → ∀ o, ops[e.i]? = some o → o.dst ≠ some t) → conc φ ((T0.get t).getD undef) = some (a.tmps.getD t undef)
  shut : Shut' .any ops listed
/-- The slots' part, behind an operation. -/
theorem slots_put {s : PS} {listed : Array Bool} {φ φ' : Phi} {a : Act} {e : Ent} {o : Oper} {V : Value} (hone : OneDst ops) (hsz : a.tmps.size = nt) (hin : ∀ d, o.dst = some d → d < nt) (hle : φ.le φ') (he : e ∈ s.hist) (hun : ∀ f ∈ s.hist, f.i = e.i → f = e) (ho : ops[e.i]? = some o) (hi : e.i < listed.size)
    (hv : conc φ' e.v = some V) (w1 : ∀ e ∈ s.hist, listed.getD e.i false = true → ∀ o, ops[e.i]? = some o → ∀ d, o.dst = some d → conc φ e.v = some (a.tmps.getD d undef))
    (w2 : ∀ t, (∀ e ∈ s.hist, listed.getD e.i false = true → ∀ o, ops[e.i]? = some o → o.dst ≠ some t) → conc φ ((T0.get t).getD undef) = some (a.tmps.getD t undef)) :
    (∀ f ∈ s.hist, (listed.setIfInBounds e.i true).getD f.i false = true → ∀ o, ops[f.i]? = some o → ∀ d, o.dst = some d → conc φ' f.v = some ((a.put (ops[e.i]?.bind (·.dst)) V).tmps.getD d undef)) ∧
    (∀ t, (∀ f ∈ s.hist, (listed.setIfInBounds e.i true).getD f.i false = true → ∀ o, ops[f.i]? = some o → o.dst ≠ some t) → conc φ' ((T0.get t).getD undef) = some ((a.put (ops[e.i]?.bind (·.dst)) V).tmps.getD t undef)) := by
  have hput : ∀ t, o.dst ≠ some t → (a.put (ops[e.i]?.bind (·.dst)) V).tmps.getD t undef = a.tmps.getD t undef := by
    intro t ht
    rw [ho]
    simp only [Option.bind_some]
    cases hd : o.dst with
    | none => rfl
    | some d =>
      have hne : d ≠ t := fun h => ht (by rw [hd, h])
      simp [Act.put, Array.getD_eq_getD_getElem?, Array.getElem?_setIfInBounds_ne hne]
  have hself : ∀ d, o.dst = some d → (a.put (ops[e.i]?.bind (·.dst)) V).tmps.getD d undef = V := by
    intro d hd
    rw [ho]
    simp only [Option.bind_some, hd]
    have : d < a.tmps.size := by rw [hsz]; exact hin d hd
    simp [Act.put, this]
  refine ⟨fun f hf hl o' ho' d hd => ?_, fun t ht => ?_⟩
  · by_cases hfe : f.i = e.i
    · have : f = e := hun f hf hfe
      subst this
      have : o' = o := Option.some.inj (ho'.symm.trans ho)
      subst this
      rw [hself d hd]; exact hv
    · rw [getD_other (fun h => hfe h.symm)] at hl
      have hne : o.dst ≠ some d := fun h => hfe (hone _ _ _ _ _ ho' ho hd h)
      rw [hput d hne]; exact conc_le hle _ _ (w1 f hf hl o' ho' d hd)
  · have hne : o.dst ≠ some t := ht e he (getD_self hi) o ho
    rw [hput t hne]
    refine conc_le hle _ _ (w2 t fun f hf hl o' ho' => ht f hf ?_ o' ho')
    by_cases hfe : e.i = f.i
    · rw [← hfe]; exact getD_self hi
    · rw [getD_other hfe]; exact hl
/-- What an entry looked at is what stands there now. -/
theorem looks_ok {s : PS} {M : List Nat} (hM : M = waits [] ops.toList) (hF : Final P callF ops T0 H0 M s) (hone : OneDst ops) (hhaz : ∀ (i j : Nat) (oi oj : Oper) (d : Tmp), ops[i]? = some oi → ops[j]? = some oj → oi.dst = some d → d ∈ oj.looksAt ops → i = j ∨ dep' M j i = true ∨ dep' M i j = true)
    (hall : ∀ i, i < ops.size → ∃ e ∈ s.hist, e.i = i) {listed : Array Bool} {φ : Phi} {a : Act} (shut : Shut' .any ops listed)
    (w1 : ∀ e ∈ s.hist, listed.getD e.i false = true → ∀ o, ops[e.i]? = some o → ∀ d, o.dst = some d → conc φ e.v = some (a.tmps.getD d undef))
    (w2 : ∀ t, (∀ e ∈ s.hist, listed.getD e.i false = true → ∀ o, ops[e.i]? = some o → o.dst ≠ some t) → conc φ ((T0.get t).getD undef) = some (a.tmps.getD t undef))
    {e : Ent} (he : e ∈ s.hist) {o : Oper} (ho : ops[e.i]? = some o) (hun : listed.getD e.i false = false) (hpre : ∀ x ∈ o.after, Region.binds .any x = true → listed.getD x.on false = true) :
    ∀ t, t ∈ o.looksAt ops → conc φ ((e.T.get t).getD undef) = some (a.tmps.getD t undef) := by
  obtain ⟨l1, l2, hsp⟩ := List.append_of_mem he
  have hok := hF.ok
  unfold PS.Ok at hok
  have huniq := idx_uniq hok
  rw [hsp] at hok
  obtain ⟨⟨T', H', l'', hh⟩, _⟩ := hist_split hok
  have hh0 := hh
  obtain ⟨_, _, _, _, hne, hpe, l', _, hr⟩ := hh
  have htmp := hr.tmp
  -- closed sets
  have hclL : ∀ j i, dep' M j i = true → (∀ o, ops[j]? = some o → ∀ x ∈ o.after, Region.binds .any x = true → listed.getD x.on false = true) → listed.getD i false = true := by
    intro j i hd hp
    rw [hM] at hd
    exact dep'_in (L := fun k => listed.getD k false = true) (fun k o hk hko x hx hb => shut.closed k o hko hk x hx hb) j i hd hp
  have hcl2 : ∀ (h : List Ent) (T : Tr Value) (H : Heap) (l : Nat), HistOk P callF ops T0 H0 h T H l → ∀ k o, (∃ f ∈ h, f.i = k) → ops[k]? = some o → ∀ x ∈ o.after, Region.binds .any x = true → ∃ f ∈ h, f.i = x.on := by
    intro h
    induction h with
    | nil => intro T H l _ k o hk; obtain ⟨f, hf, _⟩ := hk; simp at hf
    | cons g h ih =>
      intro T H l hg k o hk hko x hx hb
      obtain ⟨_, _, _, _, _, hpg, l', _, hgr⟩ := hg
      obtain ⟨f, hf, hfk⟩ := hk
      rcases List.mem_cons.1 hf with rfl | hf
      · rw [hfk] at hpg
        obtain ⟨q, hq, hqi⟩ := hpg o hko x hx hb
        exact ⟨q, by simp [hq], hqi⟩
      · obtain ⟨q, hq, hqi⟩ := ih _ _ _ hgr k o ⟨f, hf, hfk⟩ hko x hx hb
        exact ⟨q, by simp [hq], hqi⟩
  have hclC : ∀ j i, dep' M j i = true → (∀ o, ops[j]? = some o → ∀ x ∈ o.after, Region.binds .any x = true → ∃ f ∈ l2, f.i = x.on) → ∃ f ∈ l2, f.i = i := by
    intro j i hd hp
    rw [hM] at hd
    exact dep'_in (L := fun k => ∃ f ∈ l2, f.i = k) (hcl2 _ _ _ _ hr) j i hd hp
  have hpre' : ∀ o', ops[e.i]? = some o' → ∀ x ∈ o'.after, Region.binds .any x = true → listed.getD x.on false = true := fun o' ho' x hx hb => by
    have : o' = o := Option.some.inj (ho'.symm.trans ho)
    subst this; exact hpre x hx hb
  have hin2 : ∀ f ∈ l2, f ∈ s.hist := fun f hf => by rw [hsp]; simp [hf]
  intro t ht
  by_cases hw : ∃ g ∈ s.hist, listed.getD g.i false = true ∧ ∃ og, ops[g.i]? = some og ∧ og.dst = some t
  · obtain ⟨g, hg, hgl, og, hog, hgd⟩ := hw
    rw [← w1 g hg hgl og hog t hgd]
    rcases hhaz g.i e.i og o t hog ho hgd ht with h | h | h
    · rw [h, hun] at hgl; cases hgl
    · obtain ⟨f, hf, hfi⟩ := hclC e.i g.i h hpe
      have : f = g := huniq f (hin2 f hf) g hg hfi
      subst this
      rw [(htmp t).1 f hf og hog hgd]
    · have := hclL g.i e.i h fun o' ho' x hx hb => shut.closed g.i o' ho' hgl x hx hb
      rw [hun] at this; cases this
  · rw [← w2 t fun g hg hgl og hog hgd => hw ⟨g, hg, hgl, og, hog, hgd⟩]
    rw [(htmp t).2 fun f hf of hof hfd => ?_]
    rcases hhaz f.i e.i of o t hof ho hfd ht with h | h | h
    · exact hne f hf h
    · have := hclL e.i f.i h hpre'
      exact hw ⟨f, hin2 f hf, this, of, hof, hfd⟩
    · obtain ⟨q, hq, hqi⟩ := hclC f.i e.i h (fun o' ho' x hx hb => hcl2 _ _ _ _ hr f.i o' ⟨f, hf, rfl⟩ ho' x hx hb)
      exact hne q hq hqi
end
end Ev
end Go.Proofs.YtepdkcikkemieaaGreat
