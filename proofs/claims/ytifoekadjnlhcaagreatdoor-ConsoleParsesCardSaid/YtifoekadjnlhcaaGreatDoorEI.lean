/- THE ENGINE, 24: a region that draws its order, by a plan. -/
import Derived.Test.YtifoekadjnlhcaaGreatDoorEH
noncomputable section
namespace Go.Proofs.YtifoekadjnlhcaaGreatDoor
open Go.RowKit
set_option linter.unusedVariables false
set_option linter.unusedSimpArgs false
namespace Ev
variable {D : List Deferred} {rd : Option Nat}
def cntU (listed : Array Bool) (n : Nat) : Nat := (List.range n).countP fun i => !listed.getD i false
theorem cntU_succ (listed : Array Bool) (n : Nat) : cntU listed (n + 1) = cntU listed n + if listed.getD n false then 0 else 1 := by
  unfold cntU
  rw [List.range_succ, List.countP_append]
  congr 1
  rw [List.countP_singleton]
  cases listed.getD n false <;> rfl
theorem getD_self {listed : Array Bool} {i : Nat} (h : i < listed.size) : (listed.setIfInBounds i true).getD i false = true := by
  simp [Array.getD_eq_getD_getElem?, h]
theorem getD_other {listed : Array Bool} {i j : Nat} (h : i ≠ j) : (listed.setIfInBounds i true).getD j false = listed.getD j false := by
  simp [Array.getD_eq_getD_getElem?, Array.getElem?_setIfInBounds_ne h]
theorem cntU_set {listed : Array Bool} {i : Nat} (hi : i < listed.size) (hl : listed.getD i false = false) : ∀ n, i < n → cntU (listed.setIfInBounds i true) n + 1 = cntU listed n
  | 0, h => by omega
  | n + 1, h => by
    rw [cntU_succ, cntU_succ]
    by_cases hin : i = n
    · subst hin
      rw [getD_self hi, hl]
      have : ∀ m, m ≤ i → cntU (listed.setIfInBounds i true) m = cntU listed m := by
        intro m
        induction m with
        | zero => intro _; rfl
        | succ m ih => intro hm; rw [cntU_succ, cntU_succ, ih (by omega), getD_other (by omega)]
      rw [this i (Nat.le_refl _)]; simp
    · have := cntU_set hi hl n (by omega)
      rw [getD_other hin]; omega
theorem cntU_zero {listed : Array Bool} : ∀ n, cntU listed n = 0 → ∀ i, i < n → listed.getD i false = true
  | 0, _, i, h => by omega
  | n + 1, h0, i, h => by
    rw [cntU_succ] at h0
    by_cases hin : i = n
    · subst hin
      cases hl : listed.getD i false with
      | true => rfl
      | false => rw [hl] at h0; simp at h0
    · exact cntU_zero n (by omega) i (by omega)
section
variable {P : Program} {callF : Caller} {ops : Array Oper} {T0 : Tr Value} {H0 : Heap} {nt : Nat}
structure Inv (D : List Deferred) (s : PS) (A : Nat → Heap) (ops : Array Oper) (T0 : Tr Value) (H0 : Heap) (nt : Nat) (φ0 : Phi) (w0 : World) (listed : Array Bool) (m : Nat) (φ : Phi) (a : Act) (w : World) : Prop where
  ml : m ≤ s.l
  effs : ∀ f ∈ s.hist, isEff f.r = true → (listed.getD f.i false = true ↔ f.l ≤ m)
  rel : Rel φ (A m) w
  step : Step φ0 H0 w0 φ (A m) w
  ph : ∀ e ∈ s.hist, e.l ≤ m → ∀ id ob, e.r = .made id ob → listed.getD e.i false = false → φ.at_ id = none
  lt : ∀ e ∈ s.hist, e.l ≤ m → ∀ id ob, e.r = .made id ob → H0.next ≤ id ∧ id < (A m).next
  ds : ∀ e ∈ s.hist, ∀ e' ∈ s.hist, e.l ≤ m → e'.l ≤ m → ∀ id ob ob', e.r = .made id ob → e'.r = .made id ob' → e.i = e'.i
  size : a.tmps.size = nt
  defers : a.defers = D
  w1 : ∀ e ∈ s.hist, listed.getD e.i false = true → ∀ o, ops[e.i]? = some o → ∀ d, o.dst = some d → conc φ e.v = some (a.tmps.getD d undef)
  w2 : ∀ t, (∀ e ∈ s.hist, listed.getD e.i false = true → ∀ o, ops[e.i]? = some o → o.dst ≠ some t) → conc φ ((T0.get t).getD undef) = some (a.tmps.getD t undef)
  shut : Shut' .any ops listed
theorem slots_put {s : PS} {listed : Array Bool} {φ φ' : Phi} {a : Act} {e : Ent} {o : Oper} {V : Value} (hone : OneDst ops) (hsz : a.tmps.size = nt) (hin : ∀ d, o.dst = some d → d < nt) (hle : φ.le φ') (he : e ∈ s.hist) (hun : ∀ f ∈ s.hist, f.i = e.i → f = e) (ho : ops[e.i]? = some o) (hi : e.i < listed.size)
    (hv : conc φ' e.v = some V) (w1 : ∀ e ∈ s.hist, listed.getD e.i false = true → ∀ o, ops[e.i]? = some o → ∀ d, o.dst = some d → conc φ e.v = some (a.tmps.getD d undef))
    (w2 : ∀ t, (∀ e ∈ s.hist, listed.getD e.i false = true → ∀ o, ops[e.i]? = some o → o.dst ≠ some t) → conc φ ((T0.get t).getD undef) = some (a.tmps.getD t undef)) :
    (∀ f ∈ s.hist, (listed.setIfInBounds e.i true).getD f.i false = true → ∀ o, ops[f.i]? = some o → ∀ d, o.dst = some d → conc φ' f.v = some ((a.put (ops[e.i]?.bind (·.dst)) V).tmps.getD d undef)) ∧
    (∀ t, (∀ f ∈ s.hist, (listed.setIfInBounds e.i true).getD f.i false = true → ∀ o, ops[f.i]? = some o → o.dst ≠ some t) → conc φ' ((T0.get t).getD undef) = some ((a.put (ops[e.i]?.bind (·.dst)) V).tmps.getD t undef)) := by
  have hput : ∀ t, o.dst ≠ some t → (a.put (ops[e.i]?.bind (·.dst)) V).tmps.getD t undef = a.tmps.getD t undef := by
    intro t ht
    rw [ho]
    simp only [Option.bind_some]
    cases hd : o.dst with
    | none => rfl
    | some d =>
      have hne : d ≠ t := fun h => ht (by rw [hd, h])
      simp [Act.put, Array.getD_eq_getD_getElem?, Array.getElem?_setIfInBounds_ne hne]
  have hself : ∀ d, o.dst = some d → (a.put (ops[e.i]?.bind (·.dst)) V).tmps.getD d undef = V := by
    intro d hd
    rw [ho]
    simp only [Option.bind_some, hd]
    have : d < a.tmps.size := by rw [hsz]; exact hin d hd
    simp [Act.put, this]
  refine ⟨fun f hf hl o' ho' d hd => ?_, fun t ht => ?_⟩
  · by_cases hfe : f.i = e.i
    · have : f = e := hun f hf hfe
      subst this
      have : o' = o := Option.some.inj (ho'.symm.trans ho)
      subst this
      rw [hself d hd]; exact hv
    · rw [getD_other (fun h => hfe h.symm)] at hl
      have hne : o.dst ≠ some d := fun h => hfe (hone _ _ _ _ _ ho' ho hd h)
      rw [hput d hne]; exact conc_le hle _ _ (w1 f hf hl o' ho' d hd)
  · have hne : o.dst ≠ some t := ht e he (getD_self hi) o ho
    rw [hput t hne]
    refine conc_le hle _ _ (w2 t fun f hf hl o' ho' => ht f hf ?_ o' ho')
    by_cases hfe : e.i = f.i
    · rw [← hfe]; exact getD_self hi
    · rw [getD_other hfe]; exact hl
theorem looks_ok {s : PS} {M : List Nat} (hM : M = waits [] ops.toList) (hF : Final P callF ops T0 H0 M s) (hone : OneDst ops) (hhaz : ∀ (i j : Nat) (oi oj : Oper) (d : Tmp), ops[i]? = some oi → ops[j]? = some oj → oi.dst = some d → d ∈ oj.looksAt ops → i = j ∨ dep' M j i = true ∨ dep' M i j = true)
    (hall : ∀ i, i < ops.size → ∃ e ∈ s.hist, e.i = i) {listed : Array Bool} {φ : Phi} {a : Act} (shut : Shut' .any ops listed)
    (w1 : ∀ e ∈ s.hist, listed.getD e.i false = true → ∀ o, ops[e.i]? = some o → ∀ d, o.dst = some d → conc φ e.v = some (a.tmps.getD d undef))
    (w2 : ∀ t, (∀ e ∈ s.hist, listed.getD e.i false = true → ∀ o, ops[e.i]? = some o → o.dst ≠ some t) → conc φ ((T0.get t).getD undef) = some (a.tmps.getD t undef))
    {e : Ent} (he : e ∈ s.hist) {o : Oper} (ho : ops[e.i]? = some o) (hun : listed.getD e.i false = false) (hpre : ∀ x ∈ o.after, Region.binds .any x = true → listed.getD x.on false = true) :
    ∀ t, t ∈ o.looksAt ops → conc φ ((e.T.get t).getD undef) = some (a.tmps.getD t undef) := by
  obtain ⟨l1, l2, hsp⟩ := List.append_of_mem he
  have hok := hF.ok
  unfold PS.Ok at hok
  have huniq := idx_uniq hok
  rw [hsp] at hok
  obtain ⟨⟨T', H', l'', hh⟩, _⟩ := hist_split hok
  have hh0 := hh
  obtain ⟨_, _, _, _, hne, hpe, l', _, hr⟩ := hh
  have htmp := hr.tmp
  have hclL : ∀ j i, dep' M j i = true → (∀ o, ops[j]? = some o → ∀ x ∈ o.after, Region.binds .any x = true → listed.getD x.on false = true) → listed.getD i false = true := by
    intro j i hd hp
    rw [hM] at hd
    exact dep'_in (L := fun k => listed.getD k false = true) (fun k o hk hko x hx hb => shut.closed k o hko hk x hx hb) j i hd hp
  have hcl2 : ∀ (h : List Ent) (T : Tr Value) (H : Heap) (l : Nat), HistOk P callF ops T0 H0 h T H l → ∀ k o, (∃ f ∈ h, f.i = k) → ops[k]? = some o → ∀ x ∈ o.after, Region.binds .any x = true → ∃ f ∈ h, f.i = x.on := by
    intro h
    induction h with
    | nil => intro T H l _ k o hk; obtain ⟨f, hf, _⟩ := hk; simp at hf
    | cons g h ih =>
      intro T H l hg k o hk hko x hx hb
      obtain ⟨_, _, _, _, _, hpg, l', _, hgr⟩ := hg
      obtain ⟨f, hf, hfk⟩ := hk
      rcases List.mem_cons.1 hf with rfl | hf
      · rw [hfk] at hpg
        obtain ⟨q, hq, hqi⟩ := hpg o hko x hx hb
        exact ⟨q, by simp [hq], hqi⟩
      · obtain ⟨q, hq, hqi⟩ := ih _ _ _ hgr k o ⟨f, hf, hfk⟩ hko x hx hb
        exact ⟨q, by simp [hq], hqi⟩
  have hclC : ∀ j i, dep' M j i = true → (∀ o, ops[j]? = some o → ∀ x ∈ o.after, Region.binds .any x = true → ∃ f ∈ l2, f.i = x.on) → ∃ f ∈ l2, f.i = i := by
    intro j i hd hp
    rw [hM] at hd
    exact dep'_in (L := fun k => ∃ f ∈ l2, f.i = k) (hcl2 _ _ _ _ hr) j i hd hp
  have hpre' : ∀ o', ops[e.i]? = some o' → ∀ x ∈ o'.after, Region.binds .any x = true → listed.getD x.on false = true := fun o' ho' x hx hb => by
    have : o' = o := Option.some.inj (ho'.symm.trans ho)
    subst this; exact hpre x hx hb
  have hin2 : ∀ f ∈ l2, f ∈ s.hist := fun f hf => by rw [hsp]; simp [hf]
  intro t ht
  by_cases hw : ∃ g ∈ s.hist, listed.getD g.i false = true ∧ ∃ og, ops[g.i]? = some og ∧ og.dst = some t
  · obtain ⟨g, hg, hgl, og, hog, hgd⟩ := hw
    rw [← w1 g hg hgl og hog t hgd]
    rcases hhaz g.i e.i og o t hog ho hgd ht with h | h | h
    · rw [h, hun] at hgl; cases hgl
    · obtain ⟨f, hf, hfi⟩ := hclC e.i g.i h hpe
      have : f = g := huniq f (hin2 f hf) g hg hfi
      subst this
      rw [(htmp t).1 f hf og hog hgd]
    · have := hclL g.i e.i h fun o' ho' x hx hb => shut.closed g.i o' ho' hgl x hx hb
      rw [hun] at this; cases this
  · rw [← w2 t fun g hg hgl og hog hgd => hw ⟨g, hg, hgl, og, hog, hgd⟩]
    rw [(htmp t).2 fun f hf of hof hfd => ?_]
    rcases hhaz f.i e.i of o t hof ho hfd ht with h | h | h
    · exact hne f hf h
    · have := hclL e.i f.i h hpre'
      exact hw ⟨f, hin2 f hf, this, of, hof, hfd⟩
    · obtain ⟨q, hq, hqi⟩ := hclC f.i e.i h (fun o' ho' x hx hb => hcl2 _ _ _ _ hr f.i o' ⟨f, hf, rfl⟩ ho' x hx hb)
      exact hne q hq hqi
end
end Ev
end Go.Proofs.YtifoekadjnlhcaaGreatDoor
noncomputable section
namespace Go.Proofs.YtifoekadjnlhcaaGreatDoor
open Go.RowKit
set_option linter.unusedVariables false
set_option linter.unusedSimpArgs false
namespace Ev
variable {D : List Deferred} {rd : Option Nat}
section
variable {P : Program} {callF : Caller} {ops : Array Oper} {T0 : Tr Value} {H0 : Heap} {nt : Nat}
open Classical in
noncomputable def restr (op : Op) (ρ : Operand → Option Value) (x : Operand) : Option Value := if x ∈ op.operands then ρ x else none
theorem restr_eq (op : Op) (ρ : Operand → Option Value) : ∀ x ∈ op.operands, ρ x = restr op ρ x := fun x hx => by unfold restr; rw [if_pos hx]
theorem restr_ok {o : Oper} {T : Tr Value} {φ : Phi} {a : Act} (h : ∀ t, t ∈ o.looksAt ops → conc φ ((T.get t).getD undef) = some (a.tmps.getD t undef)) : ∀ x u, restr o.op (opV T) x = some u → conc φ u = some (a.eval x) := by
  intro x u hu
  unfold restr at hu
  split at hu
  · next hx =>
    cases x with
    | tmp t => cases hu; exact h t (tmp_looks hx)
    | const v =>
      simp only [opV] at hu
      split at hu
      · next hp => cases hu; exact conc_plainV hp
      · cases hu
    | global g => cases hu
    | func f => cases hu; rfl
  · cases hu
structure Run (P : Program) (callF : Caller) (ops : Array Oper) (T0 : Tr Value) (H0 : Heap) (nt : Nat) (s : PS) (M : List Nat) (A B : Nat → Heap) : Prop where
  hM : M = waits [] ops.toList
  fin : Final P callF ops T0 H0 M s
  chk : ChkAt P ops M s.hist s.H s.l
  AB : ∀ m, m ≤ s.l → Facts H0 s.hist s.H s.l m (A m) (B m)
  one : OneDst ops
  haz : ∀ (i j : Nat) (oi oj : Oper) (d : Tmp), ops[i]? = some oi → ops[j]? = some oj → oi.dst = some d → d ∈ oj.looksAt ops → i = j ∨ dep' M j i = true ∨ dep' M i j = true
  all : ∀ i, i < ops.size → ∃ e ∈ s.hist, e.i = i
  dst : ∀ e ∈ s.hist, ∀ o, ops[e.i]? = some o → ∀ d, o.dst = some d → d < nt
theorem Run.uniq {s : PS} {M : List Nat} {A B : Nat → Heap} (R : Run P callF ops T0 H0 nt s M A B) {e f : Ent} (he : e ∈ s.hist) (hf : f ∈ s.hist) (h : f.i = e.i) : f = e := idx_uniq R.fin.ok f hf e he h
theorem inv_step {s : PS} {M : List Nat} {A B : Nat → Heap} (R : Run P callF ops T0 H0 nt s M A B) {φ0 : Phi} {w0 : World} (hc : CallOk P callF φ0 H0 w0) {Q : Exit → Act → World → Prop} {listed : Array Bool} {m : Nat} {φ : Phi} {a : Act} {w : World}
    (I : Inv D s A ops T0 H0 nt φ0 w0 listed m φ a w) {i : Nat} (hi : i ∈ Region.ready .any ops listed) {K : Act → World → Prop}
    (hK : ∀ m' φ' a' w', Inv D s A ops T0 H0 nt φ0 w0 (listed.setIfInBounds i true) m' φ' a' w' → K a' w') : wpOpIn (wideR rd) 0 P ops Q i K a w := by
  obtain ⟨hun, o, ho, hpre⟩ := mem_ready.1 hi
  have hun' := getD_both hun
  have hisz : i < ops.size := (Array.getElem?_eq_some_iff.1 ho).1
  obtain ⟨e, he, rfl⟩ := R.all i hisz
  have hlook := looks_ok R.hM R.fin R.one R.haz R.all I.shut I.w1 I.w2 he ho hun' hpre
  have hρ := restr_ok (a := a) hlook
  have hlsz : e.i < listed.size := by rw [I.shut.size]; exact hisz
  have hshut : Shut' .any ops (listed.setIfInBounds e.i true) := Shut'.set I.shut hi
  have hbind : ops[e.i]?.bind (·.dst) = o.dst := by rw [ho]; rfl
  have hok := R.fin.ok
  unfold PS.Ok at hok
  have hclL : ∀ j i, dep' M j i = true → (∀ o, ops[j]? = some o → ∀ x ∈ o.after, Region.binds .any x = true → listed.getD x.on false = true) → listed.getD i false = true := by
    intro j i hd hp
    rw [R.hM] at hd
    exact dep'_in (L := fun k => listed.getD k false = true) (fun k o hk hko x hx hb => I.shut.closed k o hko hk x hx hb) j i hd hp
  have hpre' : ∀ o', ops[e.i]? = some o' → ∀ x ∈ o'.after, Region.binds .any x = true → listed.getD x.on false = true := fun o' ho' x hx hb => by
    have : o' = o := Option.some.inj (ho'.symm.trans ho)
    subst this; exact hpre x hx hb
  have quiet : isEff e.r = false → ∀ (φ' : Phi) (w' : World) (V : Value), φ.le φ' → conc φ' e.v = some V → Rel φ' (A m) w' → Step φ0 H0 w0 φ' (A m) w' → (∀ f ∈ s.hist, f.l ≤ m → ∀ id ob, f.r = .made id ob → (listed.setIfInBounds e.i true).getD f.i false = false → φ'.at_ id = none) →
      Inv D s A ops T0 H0 nt φ0 w0 (listed.setIfInBounds e.i true) m φ' (a.put o.dst V) w' := by
    intro hE φ' w' V hle hv hR' hS' hph
    obtain ⟨g1, g2⟩ := slots_put (e := e) R.one I.size (R.dst e he o ho) hle he (fun f hf h => R.uniq he hf h) ho hlsz hv I.w1 I.w2
    rw [hbind] at g1 g2
    refine ⟨I.ml, fun f hf hfe => ?_, hR', hS', hph, I.lt, I.ds, ?_, ?_, g1, g2, hshut⟩
    · have hne : e.i ≠ f.i := fun h => by rw [R.uniq hf he h] at hE; rw [hE] at hfe; cases hfe
      rw [getD_other hne]; exact I.effs f hf hfe
    · have := I.size; cases hd : o.dst <;> simp [Act.put, this]
    · have := I.defers; cases hd : o.dst <;> simp [Act.put, this]
  have phq : ∀ f ∈ s.hist, f.l ≤ m → ∀ id ob, f.r = .made id ob → (listed.setIfInBounds e.i true).getD f.i false = false → φ.at_ id = none := by
    intro f hf hfl id ob hr hl
    by_cases h : e.i = f.i
    · rw [← h, getD_self hlsz] at hl; cases hl
    · rw [getD_other h] at hl; exact I.ph f hf hfl id ob hr hl
  have hlev : isEff e.r = false → e.l ≤ m := by
    intro hE
    rcases Nat.eq_zero_or_pos e.l with h0 | h0
    · omega
    · obtain ⟨f, hf, hfe, hfl, hd⟩ := open_before R.fin he e.l h0 (by rw [hE]; simp)
      have := hclL e.i f.i hd hpre'
      have := (I.effs f hf hfe).1 this
      omega
  have hrec : isEff e.r = false → RecOk P ops e (A m) := by
    intro hE
    have hl := hlev hE
    refine chk_all R.fin R.chk R.AB m I.ml e he hE hl ?_
    by_cases hlm : e.l = m
    · exact .inl hlm
    · refine .inr fun f hf hfe hfl => ?_
      cases hd : dep' M f.i e.i with
      | false => rfl
      | true =>
        have hfl' := (I.effs f hf hfe).2 (by omega)
        have := hclL f.i e.i hd fun o' ho' x hx hb => I.shut.closed f.i o' ho' hfl' x hx hb
        rw [hun'] at this; cases this
  have hent : EntOk P callF ops e := by
    obtain ⟨l1, l2, hsp⟩ := List.append_of_mem he
    rw [hsp] at hok
    obtain ⟨⟨T', H', l'', hh⟩, _⟩ := hist_split hok
    exact hh.2.2.2.1
  obtain ⟨o2, ho2, hent⟩ := hent
  have : o2 = o := Option.some.inj (ho2.symm.trans ho)
  subst this
  unfold wpOpIn
  simp only [ho]
  cases hr : e.r with
  | still =>
    rw [hr] at hent
    obtain ⟨_, hent⟩ := hent
    have hE : isEff e.r = false := by rw [hr]; rfl
    rcases hent with ⟨hw, hv⟩ | ⟨hw, hv⟩
    · rw [if_neg (by rw [wantedV_ok hlook hw]; simp)]
      exact ⟨fun _ _ => trivial, hK m φ _ w (quiet hE φ w undef (Phi.le_refl φ) (by rw [hv]; rfl) I.rel I.step phq)⟩
    · rw [if_pos (wantedV_ok hlook hw)]
      rw [evP_congr _ (restr_eq _ _)] at hv
      obtain ⟨V, g1, g2⟩ := evP_ok (P := P) hρ hv
      refine wpIn_of_wp (evP_nd hv) ?_
      unfold Oper.wp
      rw [g2 w]
      exact hK m φ _ w (quiet hE φ w V (Phi.le_refl φ) g1 I.rel I.step phq)
  | read =>
    rw [hr] at hent
    obtain ⟨_, hw⟩ := hent
    have hE : isEff e.r = false := by rw [hr]; rfl
    have hrc := hrec hE
    unfold RecOk at hrc
    rw [hr] at hrc
    have hv := hrc o2 ho
    rw [if_pos (wantedV_ok hlook hw)]
    rw [evRd_congr _ (restr_eq _ _)] at hv
    obtain ⟨V, g1, g2⟩ := evRd_ok (P := P) I.rel hρ hv
    refine wpIn_of_wp (evRd_nd hv) ?_
    unfold Oper.wp
    rw [g2]
    exact hK m φ _ w (quiet hE φ w V (Phi.le_refl φ) g1 I.rel I.step phq)
  | made id ob =>
    rw [hr] at hent
    obtain ⟨hw, _, _, mk, hv, hev⟩ := hent
    have hE : isEff e.r = false := by rw [hr]; rfl
    have hrc := hrec hE
    unfold RecOk at hrc
    rw [hr] at hrc
    rw [if_pos (wantedV_ok hlook hw)]
    rw [evN_congr _ (restr_eq _ _)] at hv
    obtain ⟨c, x, n, V, g1, g2, g3⟩ := evN_ok (P := P) hρ hv w
    have hel := hlev hE
    have hph := I.ph e he hel id ob hr hun'
    obtain ⟨hlt1, hlt2⟩ := I.lt e he hel id ob hr
    have hle := Phi.le_put (B := ⟨w.heap.size, 0, x⟩) hph
    have hborn := I.rel.born (c := c) (e := x) (n := n) hph hlt2 hrc g2
    have hsb := Step.born (H := A m) (c := c) (e := x) (n := n) hph (fun i B hi => (I.rel.dom i B hi).2)
    refine wpIn_of_wp (evN_nd hv) ?_
    unfold Oper.wp
    rw [g1]
    have hS := I.step
    refine hK m (φ.put id ⟨w.heap.size, 0, x⟩) _ (pushW w c n) (quiet hE _ _ V hle (by rw [hev]; exact g3 _ _ (Phi.put_at _ _ _)) hborn ⟨Phi.le_trans hS.le hle, fun j C hC => ?_, ?_, fun b hb hn => ?_, fun b hb hown => ?_, hS.next, hS.tape, hS.os, hS.output⟩ fun f hf hfl id' ob' hr' hl => ?_)
    · by_cases hj : j = id
      · subst hj; exact .inr hlt1
      · rw [Phi.put_ne hj] at hC; exact hS.new j C hC
    · simp only [pushW, Array.size_push]; exact Nat.le_succ_of_le hS.size
    · rw [hsb.1 b (Nat.lt_of_lt_of_le hb hS.size)]; exact hS.keep b hb hn
    · exact hS.own b hb (hsb.2 b (Nat.lt_of_lt_of_le hb hS.size) hown)
    · have hne : id' ≠ id := fun h => by
        subst h
        have := I.ds f hf e he hfl hel id' ob' ob hr' hr
        rw [this, getD_self hlsz] at hl; cases hl
      rw [Phi.put_ne hne]; exact phq f hf hfl id' ob' hr' hl
  | eff =>
    have hE : isEff e.r = true := by rw [hr]; rfl
    rw [hr] at hent
    have hgt : ¬ e.l ≤ m := fun h => by have := (I.effs e he hE).2 h; rw [hun'] at this; cases this
    have hel : e.l = m + 1 := by
      refine Classical.byContradiction fun hne => ?_
      obtain ⟨f, hf, hfe, hfl, hd⟩ := open_before R.fin he (e.l - 1) (by omega) (by rw [hE]; simp; omega)
      have := hclL e.i f.i hd hpre'
      have := (I.effs f hf hfe).1 this
      omega
    have hmsl : m + 1 ≤ s.l := by have := lev_le hok e he; omega
    have FA := R.AB m I.ml
    have FB := R.AB (m + 1) hmsl
    have eH : e.H = A m := FA.fa e he hE hel
    have eB : e.H' = B (m + 1) := FB.fb e he hE hel
    have loud : ∀ (φ' : Phi) (w' : World) (V : Value), conc φ' e.v = some V → Rel φ' (B (m + 1)) w' → Step φ (A m) w φ' (B (m + 1)) w' → Inv D s A ops T0 H0 nt φ0 w0 (listed.setIfInBounds e.i true) (m + 1) φ' (a.put o2.dst V) w' := by
      intro φ' w' V hv hR' hS'
      obtain ⟨g1, g2⟩ := slots_put (e := e) R.one I.size (R.dst e he o2 ho) hS'.le he (fun f hf h => R.uniq he hf h) ho hlsz hv I.w1 I.w2
      rw [hbind] at g1 g2
      obtain ⟨k1, k2⟩ := FB.grow φ' w' hR'
      have hS2 := I.step.trans hS'
      have hlt : ∀ f ∈ s.hist, f.l ≤ m + 1 → ∀ id ob, f.r = .made id ob → H0.next ≤ id ∧ id < (A (m + 1)).next := by
        intro f hf hfl id ob hfr
        have hn1 := FB.nxt
        have hn2 := hS'.next
        have hn3 := hS2.next
        by_cases h : f.l ≤ m
        · have := I.lt f hf h id ob hfr; omega
        · have := FB.made f hf (by omega) id ob hfr; omega
      refine ⟨hmsl, fun f hf hfe => ?_, k1, ⟨hS2.le, hS2.new, hS2.size, hS2.keep, fun b hb ho' => hS2.own b hb (k2 b ho'), Nat.le_trans hS2.next FB.nxt, hS2.tape, hS2.os, hS2.output⟩, fun f hf hfl id ob hfr hl => ?_, hlt, fun f hf f' hf' hfl hfl' id ob ob' hr1 hr2 => ?_, ?_, ?_, g1, g2, hshut⟩
      · by_cases hfe' : e.i = f.i
        · rw [← hfe', getD_self hlsz]
          have : f = e := R.uniq he hf hfe'.symm
          subst this
          exact ⟨fun _ => by omega, fun _ => rfl⟩
        · rw [getD_other hfe', I.effs f hf hfe]
          refine ⟨fun h => by omega, fun h => ?_⟩
          rcases Nat.lt_or_ge m f.l with h2 | h2
          · have := eff_uniq hok f hf e he hfe hE (by omega)
            subst this; exact absurd rfl hfe'
          · exact h2
      · have hne : e.i ≠ f.i := fun h => by rw [← h, getD_self hlsz] at hl; cases hl
        rw [getD_other hne] at hl
        cases hat : φ'.at_ id with
        | none => rfl
        | some C =>
          exfalso
          by_cases h : f.l ≤ m
          · have h1 := I.ph f hf h id ob hfr hl
            rcases hS'.new id C hat with h2 | h2
            · rw [h1] at h2; cases h2
            · have := (I.lt f hf h id ob hfr).2; omega
          · have h1 := (FB.made f hf (by omega) id ob hfr).1
            have := (hR'.dom id C hat).1; omega
      · have hn2 := hS'.next
        by_cases h : f.l ≤ m <;> by_cases h' : f'.l ≤ m
        · exact I.ds f hf f' hf' h h' id ob ob' hr1 hr2
        · have h1 := (I.lt f hf h id ob hr1).2
          have h2 := (FB.made f' hf' (by omega) id ob' hr2).1; omega
        · have h1 := (I.lt f' hf' h' id ob' hr2).2
          have h2 := (FB.made f hf (by omega) id ob hr1).1; omega
        · exact FB.dist f hf f' hf' (by omega) (by omega) id ob ob' hr1 hr2
      · have := I.size; cases hd : o2.dst <;> simp [Act.put, this]
      · have := I.defers; cases hd : o2.dst <;> simp [Act.put, this]
    rcases hent with ⟨hw, hv, hH⟩ | ⟨hw, hv⟩
    · rw [if_neg (by rw [wantedV_ok hlook hw]; simp)]
      have hBA : B (m + 1) = A m := by rw [← eB, hH, eH]
      exact ⟨fun _ _ => trivial, hK (m + 1) φ _ w (loud φ w undef (by rw [hv]; rfl) (by rw [hBA]; exact I.rel) (by rw [hBA]; exact Step.refl _ _ _))⟩
    · rw [if_pos (wantedV_ok hlook hw)]
      rw [runOp_congr _ (restr_eq _ _), eH, eB] at hv
      refine (runOp_ok hc I.step I.rel hρ hv fun φ' x w' hR' hS' hx => ?_)
      exact hK (m + 1) φ' _ w' (loud φ' w' x hx hR' hS')
end
end Ev
end Go.Proofs.YtifoekadjnlhcaaGreatDoor
noncomputable section
namespace Go.Proofs.YtifoekadjnlhcaaGreatDoor
open Go.RowKit
set_option linter.unusedVariables false
set_option linter.unusedSimpArgs false
namespace Ev
variable {D : List Deferred} {rd : Option Nat}
section
variable {P : Program} {callF : Caller} {ops : Array Oper} {T0 : Tr Value} {H0 : Heap} {nt : Nat}
theorem some_ready : ∀ {h : List Ent} {T : Tr Value} {H : Heap} {l : Nat} {listed : Array Bool}, HistOk P callF ops T0 H0 h T H l → (∃ e ∈ h, listed.getD e.i false = false) → ∃ e ∈ h, listed.getD e.i false = false ∧ ∀ o, ops[e.i]? = some o → ∀ x ∈ o.after, Region.binds .any x = true → listed.getD x.on false = true
  | [], _, _, _, _, _, h => by obtain ⟨e, he, _⟩ := h; simp at he
  | e :: h, T, H, l, listed, hh, hx => by
    obtain ⟨_, _, _, _, hne, hp, l', _, hr⟩ := hh
    by_cases hy : ∃ f ∈ h, listed.getD f.i false = false
    · obtain ⟨f, hf, g⟩ := some_ready hr hy
      exact ⟨f, by simp [hf], g⟩
    · have hall : ∀ f ∈ h, listed.getD f.i false = true := fun f hf => by
        cases hl : listed.getD f.i false with
        | true => rfl
        | false => exact absurd ⟨f, hf, hl⟩ hy
      obtain ⟨f, hf, hfl⟩ := hx
      rcases List.mem_cons.1 hf with rfl | hf
      · refine ⟨f, by simp, hfl, fun o ho x hx hb => ?_⟩
        obtain ⟨g, hg, hgi⟩ := hp o ho x hx hb
        rw [← hgi]; exact hall g hg
      · rw [hall f hf] at hfl; cases hfl
theorem ready_of {listed : Array Bool} {i : Nat} {o : Oper} (hs : listed.size = ops.size) (ho : ops[i]? = some o) (hl : listed.getD i false = false) (hp : ∀ x ∈ o.after, Region.binds .any x = true → listed.getD x.on false = true) : i ∈ Region.ready .any ops listed := by
  have hi : i < listed.size := by rw [hs]; exact (Array.getElem?_eq_some_iff.1 ho).1
  refine mem_ready.2 ⟨?_, o, ho, hp⟩
  simpa [Array.getD_eq_getD_getElem?, hi] using hl
theorem sched {s : PS} {M : List Nat} {A B : Nat → Heap} (R : Run P callF ops T0 H0 nt s M A B) {φ0 : Phi} {w0 : World} (hc : CallOk P callF φ0 H0 w0) {Q : Exit → Act → World → Prop}
    (hQ : ∀ φ' a' w', Rel φ' s.H w' → FRel D φ' nt s.T a' → Step φ0 H0 w0 φ' s.H w' → Q .normal a' w') :
    ∀ (fuel : Nat) (listed : Array Bool) (m : Nat) (φ : Phi) (a : Act) (w : World), Inv D s A ops T0 H0 nt φ0 w0 listed m φ a w → cntU listed ops.size = fuel → wpAnyIn (wideR rd) 0 P .any ops Q fuel listed a w := by
  intro fuel
  induction fuel with
  | zero =>
    intro listed m φ a w I hcnt
    have hall := cntU_zero _ hcnt
    refine ⟨?_, ?_⟩
    · cases hrd : Region.ready .any ops listed with
      | nil => rfl
      | cons i l =>
        exfalso
        obtain ⟨hun, o, ho, _⟩ := mem_ready.1 (show i ∈ Region.ready .any ops listed by rw [hrd]; simp)
        have := hall i (Array.getElem?_eq_some_iff.1 ho).1
        rw [getD_both hun] at this; cases this
    · have hin : ∀ e ∈ s.hist, ∃ o, ops[e.i]? = some o := by
        intro e he
        obtain ⟨l1, l2, hsp⟩ := List.append_of_mem he
        have hok := R.fin.ok
        unfold PS.Ok at hok
        rw [hsp] at hok
        obtain ⟨⟨T', H', l'', hh⟩, _⟩ := hist_split hok
        obtain ⟨o, ho, _⟩ := hh.2.2.2.1
        exact ⟨o, ho⟩
      have hlist : ∀ e ∈ s.hist, listed.getD e.i false = true := fun e he => by
        obtain ⟨o, ho⟩ := hin e he
        exact hall e.i (Array.getElem?_eq_some_iff.1 ho).1
      have hml : m = s.l := by
        refine Classical.byContradiction fun hne => ?_
        have := I.ml
        obtain ⟨f, hf, hfe, hfl⟩ := eff_ex R.fin.ok (m + 1) (by omega) (by omega)
        have := (I.effs f hf hfe).1 (hlist f hf)
        omega
      have hA := (R.AB m I.ml).tp hml
      have hR := I.rel
      have hS := I.step
      rw [hA] at hR hS
      refine hQ φ a w hR ⟨I.size, fun t => ?_, I.defers⟩ hS
      have htmp := R.fin.ok.tmp t
      by_cases hw : ∃ g ∈ s.hist, ∃ og, ops[g.i]? = some og ∧ og.dst = some t
      · obtain ⟨g, hg, og, hog, hgd⟩ := hw
        rw [htmp.1 g hg og hog hgd]
        exact I.w1 g hg (hlist g hg) og hog t hgd
      · rw [htmp.2 fun g hg og hog hgd => hw ⟨g, hg, og, hog, hgd⟩]
        exact I.w2 t fun g hg _ og hog hgd => hw ⟨g, hg, og, hog, hgd⟩
  | succ fuel ih =>
    intro listed m φ a w I hcnt
    refine ⟨fun hnil => ?_, fun i hi => ?_⟩
    · exfalso
      have hex : ∃ i, i < ops.size ∧ listed.getD i false = false := by
        refine Classical.byContradiction fun hno => ?_
        have hz : ∀ n, n ≤ ops.size → cntU listed n = 0 := by
          intro n
          induction n with
          | zero => intro _; rfl
          | succ n ihn =>
            intro hn
            rw [cntU_succ, ihn (by omega)]
            cases hl : listed.getD n false with
            | true => rfl
            | false => exact absurd ⟨n, by omega, hl⟩ hno
        rw [hz _ (Nat.le_refl _)] at hcnt; cases hcnt
      obtain ⟨i, hi, hil⟩ := hex
      obtain ⟨e, he, rfl⟩ := R.all i hi
      obtain ⟨f, hf, hfl, hfp⟩ := some_ready R.fin.ok ⟨e, he, hil⟩
      obtain ⟨l1, l2, hsp⟩ := List.append_of_mem hf
      have hok := R.fin.ok
      unfold PS.Ok at hok
      rw [hsp] at hok
      obtain ⟨⟨T', H', l'', hh⟩, _⟩ := hist_split hok
      obtain ⟨o, ho, _⟩ := hh.2.2.2.1
      have := ready_of I.shut.size ho hfl (hfp o ho)
      rw [hnil] at this; simp at this
    · obtain ⟨hun, o, ho, hpre⟩ := mem_ready.1 hi
      have hisz : i < ops.size := (Array.getElem?_eq_some_iff.1 ho).1
      refine inv_step R hc I hi fun m' φ' a' w' I' => ih _ m' φ' a' w' I' ?_
      have := cntU_set (by rw [I.shut.size]; exact hisz) (getD_both hun) ops.size hisz
      omega
def dstOk (nt : Nat) (ops : Array Oper) : Bool := ops.toList.all fun o => match o.dst with | some d => decide (d < nt) | none => true
theorem eff_pos : ∀ {h : List Ent} {T : Tr Value} {H : Heap} {l : Nat}, HistOk P callF ops T0 H0 h T H l → ∀ e ∈ h, isEff e.r = true → 1 ≤ e.l
  | [], _, _, _, _, e, he, _ => by simp at he
  | f :: h, T, H, l, hh, e, he, hE => by
    obtain ⟨_, _, hl, _, _, _, l', hl', hr⟩ := hh
    rcases List.mem_cons.1 he with rfl | he
    · rw [if_pos hE] at hl'; omega
    · exact eff_pos hr e he hE
theorem plan_wp (hm : P.follows .mixedOrders = true) {p : Plan} {s : PS} (hok : planOk ops p = true) (hd : dstOk nt ops = true) (hrun : runPlan P callF nt ops p ⟨T0, H0, [], 0⟩ = some s)
    {id : Nat} {φ0 : Phi} {a0 : Act} {w0 : World} (hc : CallOk P callF φ0 H0 { w0 with drawn := w0.drawn + 1 }) (hR : Rel φ0 H0 w0) (hF : FRel D φ0 nt T0 a0) {Q : Exit → Act → World → Prop}
    (hQ : ∀ φ' a' w', Rel φ' s.H w' → FRel D φ' nt s.T a' → Step φ0 H0 { w0 with drawn := w0.drawn + 1 } φ' s.H w' → Q .normal a' w') : (Code.region id ops true).wpIn (wideR rd) 0 P Q a0 w0 := by
  unfold planOk at hok
  simp only [Bool.and_eq_true] at hok
  obtain ⟨⟨⟨⟨h1, h2⟩, h3⟩, h4⟩, h5⟩ := hok
  have hhz : ∀ (i j : Nat) (oi oj : Oper) (d : Tmp), ops[i]? = some oi → ops[j]? = some oj → oi.dst = some d → i = j ∨ (oj.dst ≠ some d ∧ (d ∈ oj.looksAt ops → dep' (waits [] ops.toList) j i = true ∨ dep' (waits [] ops.toList) i j = true)) := by
    intro i j oi oj d hi hj hdi
    have hi' : i < ops.size := (Array.getElem?_eq_some_iff.1 hi).1
    have hj' : j < ops.size := (Array.getElem?_eq_some_iff.1 hj).1
    have := (List.all_eq_true.1 ((List.all_eq_true.1 h5) i (by simpa using hi'))) j (by simpa using hj')
    unfold hazB at this
    have e1 : ops.toList[i]? = some oi := by simpa using hi
    have e2 : ops.toList[j]? = some oj := by simpa using hj
    rw [e1, e2] at this
    simp only [hdi, Bool.or_eq_true, Bool.and_eq_true, beq_iff_eq, bne_iff_ne, Bool.not_eq_true'] at this
    rcases this with h | ⟨ha, hb⟩
    · exact .inl h
    · refine .inr ⟨ha, fun hl => ?_⟩
      rcases hb with (hb | hb) | hb
      · have : (oj.looksAt ops).contains d = true := by simpa using hl
        rw [this] at hb; cases hb
      · exact .inl hb
      · exact .inr hb
  have hone : OneDst ops := fun i j oi oj d hi hj hdi hdj => by
    rcases hhz i j oi oj d hi hj hdi with h | ⟨h, _⟩
    · exact h
    · exact absurd hdj h
  obtain ⟨f1, f2, f3⟩ := runPlan_final (M := waits [] ops.toList) hone p ⟨T0, H0, [], 0⟩ s [] none ⟨⟨rfl, rfl, rfl⟩, trivial, trivial⟩ hrun h3 h4 ⟨rfl, rfl, rfl⟩ (fun _ e he => by simp at he)
  have hfacts := facts f1.ok
  have hch : ∃ A B : Nat → Heap, ∀ m, m ≤ s.l → Facts H0 s.hist s.H s.l m (A m) (B m) := by
    refine ⟨fun m => if h : m ≤ s.l then (hfacts m h).choose else H0, fun m => if h : m ≤ s.l then (hfacts m h).choose_spec.choose else H0, fun m hm => ?_⟩
    simp only [dif_pos hm]
    exact (hfacts m hm).choose_spec.choose_spec
  obtain ⟨A, B, hAB⟩ := hch
  have R : Run P callF ops T0 H0 nt s (waits [] ops.toList) A B := by
    refine ⟨rfl, f1, f2, hAB, hone, fun i j oi oj d hi hj hdi hl => ?_, fun i hi => ?_, fun e he o ho d hdo => ?_⟩
    · rcases hhz i j oi oj d hi hj hdi with h | ⟨_, h⟩
      · exact .inl h
      · exact .inr (h hl)
    · have := (List.all_eq_true.1 h2) i (by simpa using hi)
      have hmem : i ∈ p.ord := by simpa using this
      have : i ∈ s.hist.map (·.i) := by rw [f3]; simp [hmem]
      rw [List.mem_map] at this
      obtain ⟨e, he, h⟩ := this
      exact ⟨e, he, h⟩
    · have ho' : o ∈ ops.toList := by
        have : ops.toList[e.i]? = some o := by simpa using ho
        exact List.mem_of_getElem? this
      have := (List.all_eq_true.1 hd) o ho'
      rw [hdo] at this
      simpa using this
  refine wpIn_region_any hm ?_
  have F0 := hAB 0 (Nat.zero_le _)
  have hB0 : B 0 = H0 := F0.f0 rfl
  have hR' : Rel φ0 H0 { w0 with drawn := w0.drawn + 1 } := hR.heap rfl
  have hg := F0.grow φ0 { w0 with drawn := w0.drawn + 1 } (by rw [hB0]; exact hR')
  rw [hB0] at hg
  have hlev0 : ∀ e ∈ s.hist, e.l ≤ 0 → ∀ id ob, e.r = .made id ob → H0.next ≤ id ∧ id < (A 0).next := fun e he hl id ob hr => by
    have := F0.made e he (by omega) id ob hr; rw [hB0] at this; exact this
  have hcnt : cntU (Array.replicate ops.size false) ops.size = ops.size := by
    have : ∀ n, n ≤ ops.size → cntU (Array.replicate ops.size false) n = n := by
      intro n
      induction n with
      | zero => intro _; rfl
      | succ n ih => intro hn; rw [cntU_succ, ih (by omega)]; simp [show n < ops.size by omega]
    exact this _ (Nat.le_refl _)
  have hnone : ∀ i, (Array.replicate ops.size false).getD i false = false := by
    intro i; by_cases h : i < ops.size <;> simp [Array.getD_eq_getD_getElem?, h]
  refine sched R hc hQ ops.size _ 0 φ0 a0 { w0 with drawn := w0.drawn + 1 } ⟨Nat.zero_le _, fun f hf hfe => ?_, hg.1, ?_, fun e he hl id ob hr _ => ?_, hlev0, fun e he e' he' hl hl' id ob ob' h1 h2 => F0.dist e he e' he' (by omega) (by omega) id ob ob' h1 h2, hF.size, hF.defers, fun e he hl => ?_, fun t _ => hF.vals t, ?_⟩ hcnt
  · rw [hnone]
    have := eff_pos f1.ok f hf hfe
    exact ⟨(fun h => by cases h), (fun h => by omega)⟩
  · exact ⟨Phi.le_refl φ0, fun _ _ h => .inl h, Nat.le_refl _, fun _ _ _ => rfl, fun b _ hb => hg.2 b hb, by have := F0.nxt; rw [hB0] at this; exact this, rfl, rfl, rfl⟩
  · cases hat : φ0.at_ id with
    | none => rfl
    | some C =>
      have h1 := (hlev0 e he hl id ob hr).1
      have := (hR.dom id C hat).1; omega
  · rw [hnone] at hl; cases hl
  · exact ⟨by simp, fun j o hj hl => by rw [hnone] at hl; cases hl⟩
end
end Ev
end Go.Proofs.YtifoekadjnlhcaaGreatDoor
