/- THE ENGINE, 24: a region that draws its order, by a plan. -/
import Derived.Test.YtifoekadjnlhcaaGreatDoorEG
noncomputable section
namespace Go.Proofs.YtifoekadjnlhcaaGreatDoor
open Go.RowKit
set_option linter.unusedVariables false
set_option linter.unusedSimpArgs false
namespace Ev
variable {D : List Deferred} {rd : Option Nat}
def cntU (listed : Array Bool) (n : Nat) : Nat := (List.range n).countP fun i => !listed.getD i false
theorem cntU_succ (listed : Array Bool) (n : Nat) : cntU listed (n + 1) = cntU listed n + if listed.getD n false then 0 else 1 := by
  unfold cntU
  rw [List.range_succ, List.countP_append]
  congr 1
  rw [List.countP_singleton]
  cases listed.getD n false <;> rfl
theorem getD_self {listed : Array Bool} {i : Nat} (h : i < listed.size) : (listed.setIfInBounds i true).getD i false = true := by
  simp [Array.getD_eq_getD_getElem?, h]
theorem getD_other {listed : Array Bool} {i j : Nat} (h : i ≠ j) : (listed.setIfInBounds i true).getD j false = listed.getD j false := by
  simp [Array.getD_eq_getD_getElem?, Array.getElem?_setIfInBounds_ne h]
theorem cntU_set {listed : Array Bool} {i : Nat} (hi : i < listed.size) (hl : listed.getD i false = false) : ∀ n, i < n → cntU (listed.setIfInBounds i true) n + 1 = cntU listed n
  | 0, h => by omega
  | n + 1, h => by
    rw [cntU_succ, cntU_succ]
    by_cases hin : i = n
    · subst hin
      rw [getD_self hi, hl]
      have : ∀ m, m ≤ i → cntU (listed.setIfInBounds i true) m = cntU listed m := by
        intro m
        induction m with
        | zero => intro _; rfl
        | succ m ih => intro hm; rw [cntU_succ, cntU_succ, ih (by omega), getD_other (by omega)]
      rw [this i (Nat.le_refl _)]; simp
    · have := cntU_set hi hl n (by omega)
      rw [getD_other hin]; omega
theorem cntU_zero {listed : Array Bool} : ∀ n, cntU listed n = 0 → ∀ i, i < n → listed.getD i false = true
  | 0, _, i, h => by omega
  | n + 1, h0, i, h => by
    rw [cntU_succ] at h0
    by_cases hin : i = n
    · subst hin
      cases hl : listed.getD i false with
      | true => rfl
      | false => rw [hl] at h0; simp at h0
    · exact cntU_zero n (by omega) i (by omega)
section
variable {P : Program} {callF : Caller} {ops : Array Oper} {T0 : Tr Value} {H0 : Heap} {nt : Nat}
structure Inv (D : List Deferred) (s : PS) (A : Nat → Heap) (ops : Array Oper) (T0 : Tr Value) (H0 : Heap) (nt : Nat) (φ0 : Phi) (w0 : World) (listed : Array Bool) (m : Nat) (φ : Phi) (a : Act) (w : World) : Prop where
  ml : m ≤ s.l
  effs : ∀ f ∈ s.hist, isEff f.r = true → (listed.getD f.i false = true ↔ f.l ≤ m)
  rel : Rel φ (A m) w
  step : Step φ0 H0 w0 φ (A m) w
  ph : ∀ e ∈ s.hist, e.l ≤ m → ∀ id ob, e.r = .made id ob → listed.getD e.i false = false → φ.at_ id = none
  lt : ∀ e ∈ s.hist, e.l ≤ m → ∀ id ob, e.r = .made id ob → H0.next ≤ id ∧ id < (A m).next
  ds : ∀ e ∈ s.hist, ∀ e' ∈ s.hist, e.l ≤ m → e'.l ≤ m → ∀ id ob ob', e.r = .made id ob → e'.r = .made id ob' → e.i = e'.i
  size : a.tmps.size = nt
  defers : a.defers = D
  w1 : ∀ e ∈ s.hist, listed.getD e.i false = true → ∀ o, ops[e.i]? = some o → ∀ d, o.dst = some d → conc φ e.v = some (a.tmps.getD d undef)
  w2 : ∀ t, (∀ e ∈ s.hist, listed.getD e.i false = true → ∀ o, ops[e.i]? = some o → o.dst ≠ some t) → conc φ ((T0.get t).getD undef) = some (a.tmps.getD t undef)
  shut : Shut' .any ops listed
theorem slots_put {s : PS} {listed : Array Bool} {φ φ' : Phi} {a : Act} {e : Ent} {o : Oper} {V : Value} (hone : OneDst ops) (hsz : a.tmps.size = nt) (hin : ∀ d, o.dst = some d → d < nt) (hle : φ.le φ') (he : e ∈ s.hist) (hun : ∀ f ∈ s.hist, f.i = e.i → f = e) (ho : ops[e.i]? = some o) (hi : e.i < listed.size)
    (hv : conc φ' e.v = some V) (w1 : ∀ e ∈ s.hist, listed.getD e.i false = true → ∀ o, ops[e.i]? = some o → ∀ d, o.dst = some d → conc φ e.v = some (a.tmps.getD d undef))
    (w2 : ∀ t, (∀ e ∈ s.hist, listed.getD e.i false = true → ∀ o, ops[e.i]? = some o → o.dst ≠ some t) → conc φ ((T0.get t).getD undef) = some (a.tmps.getD t undef)) :
    (∀ f ∈ s.hist, (listed.setIfInBounds e.i true).getD f.i false = true → ∀ o, ops[f.i]? = some o → ∀ d, o.dst = some d → conc φ' f.v = some ((a.put (ops[e.i]?.bind (·.dst)) V).tmps.getD d undef)) ∧
    (∀ t, (∀ f ∈ s.hist, (listed.setIfInBounds e.i true).getD f.i false = true → ∀ o, ops[f.i]? = some o → o.dst ≠ some t) → conc φ' ((T0.get t).getD undef) = some ((a.put (ops[e.i]?.bind (·.dst)) V).tmps.getD t undef)) := by
  have hput : ∀ t, o.dst ≠ some t → (a.put (ops[e.i]?.bind (·.dst)) V).tmps.getD t undef = a.tmps.getD t undef := by
    intro t ht
    rw [ho]
    simp only [Option.bind_some]
    cases hd : o.dst with
    | none => rfl
    | some d =>
      have hne : d ≠ t := fun h => ht (by rw [hd, h])
      simp [Act.put, Array.getD_eq_getD_getElem?, Array.getElem?_setIfInBounds_ne hne]
  have hself : ∀ d, o.dst = some d → (a.put (ops[e.i]?.bind (·.dst)) V).tmps.getD d undef = V := by
    intro d hd
    rw [ho]
    simp only [Option.bind_some, hd]
    have : d < a.tmps.size := by rw [hsz]; exact hin d hd
    simp [Act.put, this]
  refine ⟨fun f hf hl o' ho' d hd => ?_, fun t ht => ?_⟩
  · by_cases hfe : f.i = e.i
    · have : f = e := hun f hf hfe
      subst this
      have : o' = o := Option.some.inj (ho'.symm.trans ho)
      subst this
      rw [hself d hd]; exact hv
    · rw [getD_other (fun h => hfe h.symm)] at hl
      have hne : o.dst ≠ some d := fun h => hfe (hone _ _ _ _ _ ho' ho hd h)
      rw [hput d hne]; exact conc_le hle _ _ (w1 f hf hl o' ho' d hd)
  · have hne : o.dst ≠ some t := ht e he (getD_self hi) o ho
    rw [hput t hne]
    refine conc_le hle _ _ (w2 t fun f hf hl o' ho' => ht f hf ?_ o' ho')
    by_cases hfe : e.i = f.i
    · rw [← hfe]; exact getD_self hi
    · rw [getD_other hfe]; exact hl
theorem looks_ok {s : PS} {M : List Nat} (hM : M = waits [] ops.toList) (hF : Final P callF ops T0 H0 M s) (hone : OneDst ops) (hhaz : ∀ (i j : Nat) (oi oj : Oper) (d : Tmp), ops[i]? = some oi → ops[j]? = some oj → oi.dst = some d → d ∈ oj.looksAt ops → i = j ∨ dep' M j i = true ∨ dep' M i j = true)
    (hall : ∀ i, i < ops.size → ∃ e ∈ s.hist, e.i = i) {listed : Array Bool} {φ : Phi} {a : Act} (shut : Shut' .any ops listed)
    (w1 : ∀ e ∈ s.hist, listed.getD e.i false = true → ∀ o, ops[e.i]? = some o → ∀ d, o.dst = some d → conc φ e.v = some (a.tmps.getD d undef))
    (w2 : ∀ t, (∀ e ∈ s.hist, listed.getD e.i false = true → ∀ o, ops[e.i]? = some o → o.dst ≠ some t) → conc φ ((T0.get t).getD undef) = some (a.tmps.getD t undef))
    {e : Ent} (he : e ∈ s.hist) {o : Oper} (ho : ops[e.i]? = some o) (hun : listed.getD e.i false = false) (hpre : ∀ x ∈ o.after, Region.binds .any x = true → listed.getD x.on false = true) :
    ∀ t, t ∈ o.looksAt ops → conc φ ((e.T.get t).getD undef) = some (a.tmps.getD t undef) := by
  obtain ⟨l1, l2, hsp⟩ := List.append_of_mem he
  have hok := hF.ok
  unfold PS.Ok at hok
  have huniq := idx_uniq hok
  rw [hsp] at hok
  obtain ⟨⟨T', H', l'', hh⟩, _⟩ := hist_split hok
  have hh0 := hh
  obtain ⟨_, _, _, _, hne, hpe, l', _, hr⟩ := hh
  have htmp := hr.tmp
  have hclL : ∀ j i, dep' M j i = true → (∀ o, ops[j]? = some o → ∀ x ∈ o.after, Region.binds .any x = true → listed.getD x.on false = true) → listed.getD i false = true := by
    intro j i hd hp
    rw [hM] at hd
    exact dep'_in (L := fun k => listed.getD k false = true) (fun k o hk hko x hx hb => shut.closed k o hko hk x hx hb) j i hd hp
  have hcl2 : ∀ (h : List Ent) (T : Tr Value) (H : Heap) (l : Nat), HistOk P callF ops T0 H0 h T H l → ∀ k o, (∃ f ∈ h, f.i = k) → ops[k]? = some o → ∀ x ∈ o.after, Region.binds .any x = true → ∃ f ∈ h, f.i = x.on := by
    intro h
    induction h with
    | nil => intro T H l _ k o hk; obtain ⟨f, hf, _⟩ := hk; simp at hf
    | cons g h ih =>
      intro T H l hg k o hk hko x hx hb
      obtain ⟨_, _, _, _, _, hpg, l', _, hgr⟩ := hg
      obtain ⟨f, hf, hfk⟩ := hk
      rcases List.mem_cons.1 hf with rfl | hf
      · rw [hfk] at hpg
        obtain ⟨q, hq, hqi⟩ := hpg o hko x hx hb
        exact ⟨q, by simp [hq], hqi⟩
      · obtain ⟨q, hq, hqi⟩ := ih _ _ _ hgr k o ⟨f, hf, hfk⟩ hko x hx hb
        exact ⟨q, by simp [hq], hqi⟩
  have hclC : ∀ j i, dep' M j i = true → (∀ o, ops[j]? = some o → ∀ x ∈ o.after, Region.binds .any x = true → ∃ f ∈ l2, f.i = x.on) → ∃ f ∈ l2, f.i = i := by
    intro j i hd hp
    rw [hM] at hd
    exact dep'_in (L := fun k => ∃ f ∈ l2, f.i = k) (hcl2 _ _ _ _ hr) j i hd hp
  have hpre' : ∀ o', ops[e.i]? = some o' → ∀ x ∈ o'.after, Region.binds .any x = true → listed.getD x.on false = true := fun o' ho' x hx hb => by
    have : o' = o := Option.some.inj (ho'.symm.trans ho)
    subst this; exact hpre x hx hb
  have hin2 : ∀ f ∈ l2, f ∈ s.hist := fun f hf => by rw [hsp]; simp [hf]
  intro t ht
  by_cases hw : ∃ g ∈ s.hist, listed.getD g.i false = true ∧ ∃ og, ops[g.i]? = some og ∧ og.dst = some t
  · obtain ⟨g, hg, hgl, og, hog, hgd⟩ := hw
    rw [← w1 g hg hgl og hog t hgd]
    rcases hhaz g.i e.i og o t hog ho hgd ht with h | h | h
    · rw [h, hun] at hgl; cases hgl
    · obtain ⟨f, hf, hfi⟩ := hclC e.i g.i h hpe
      have : f = g := huniq f (hin2 f hf) g hg hfi
      subst this
      rw [(htmp t).1 f hf og hog hgd]
    · have := hclL g.i e.i h fun o' ho' x hx hb => shut.closed g.i o' ho' hgl x hx hb
      rw [hun] at this; cases this
  · rw [← w2 t fun g hg hgl og hog hgd => hw ⟨g, hg, hgl, og, hog, hgd⟩]
    rw [(htmp t).2 fun f hf of hof hfd => ?_]
    rcases hhaz f.i e.i of o t hof ho hfd ht with h | h | h
    · exact hne f hf h
    · have := hclL e.i f.i h hpre'
      exact hw ⟨f, hin2 f hf, this, of, hof, hfd⟩
    · obtain ⟨q, hq, hqi⟩ := hclC f.i e.i h (fun o' ho' x hx hb => hcl2 _ _ _ _ hr f.i o' ⟨f, hf, rfl⟩ ho' x hx hb)
      exact hne q hq hqi
end
end Ev
end Go.Proofs.YtifoekadjnlhcaaGreatDoor
noncomputable section
namespace Go.Proofs.YtifoekadjnlhcaaGreatDoor
open Go.RowKit
set_option linter.unusedVariables false
set_option linter.unusedSimpArgs false
namespace Ev
variable {D : List Deferred} {rd : Option Nat}
section
variable {P : Program} {callF : Caller} {ops : Array Oper} {T0 : Tr Value} {H0 : Heap} {nt : Nat}
open Classical in
noncomputable def restr (op : Op) (ρ : Operand → Option Value) (x : Operand) : Option Value := if x ∈ op.operands then ρ x else none
theorem restr_eq (op : Op) (ρ : Operand → Option Value) : ∀ x ∈ op.operands, ρ x = restr op ρ x := fun x hx => by unfold restr; rw [if_pos hx]
theorem restr_ok {o : Oper} {T : Tr Value} {φ : Phi} {a : Act} (h : ∀ t, t ∈ o.looksAt ops → conc φ ((T.get t).getD undef) = some (a.tmps.getD t undef)) : ∀ x u, restr o.op (opV T) x = some u → conc φ u = some (a.eval x) := by
  intro x u hu
  unfold restr at hu
  split at hu
  · next hx =>
    cases x with
    | tmp t => cases hu; exact h t (tmp_looks hx)
    | const v =>
      simp only [opV] at hu
      split at hu
      · next hp => cases hu; exact conc_plainV hp
      · cases hu
    | global g => cases hu
    | func f => cases hu; rfl
  · cases hu
structure Run (P : Program) (callF : Caller) (ops : Array Oper) (T0 : Tr Value) (H0 : Heap) (nt : Nat) (s : PS) (M : List Nat) (A B : Nat → Heap) : Prop where
  hM : M = waits [] ops.toList
  fin : Final P callF ops T0 H0 M s
  chk : ChkAt P ops M s.hist s.H s.l
  AB : ∀ m, m ≤ s.l → Facts H0 s.hist s.H s.l m (A m) (B m)
  one : OneDst ops
  haz : ∀ (i j : Nat) (oi oj : Oper) (d : Tmp), ops[i]? = some oi → ops[j]? = some oj → oi.dst = some d → d ∈ oj.looksAt ops → i = j ∨ dep' M j i = true ∨ dep' M i j = true
  all : ∀ i, i < ops.size → ∃ e ∈ s.hist, e.i = i
  dst : ∀ e ∈ s.hist, ∀ o, ops[e.i]? = some o → ∀ d, o.dst = some d → d < nt
theorem Run.uniq {s : PS} {M : List Nat} {A B : Nat → Heap} (R : Run P callF ops T0 H0 nt s M A B) {e f : Ent} (he : e ∈ s.hist) (hf : f ∈ s.hist) (h : f.i = e.i) : f = e := idx_uniq R.fin.ok f hf e he h
theorem inv_step {s : PS} {M : List Nat} {A B : Nat → Heap} (R : Run P callF ops T0 H0 nt s M A B) {φ0 : Phi} {w0 : World} (hc : CallOk P callF φ0 H0 w0) {Q : Exit → Act → World → Prop} {listed : Array Bool} {m : Nat} {φ : Phi} {a : Act} {w : World}
    (I : Inv D s A ops T0 H0 nt φ0 w0 listed m φ a w) {i : Nat} (hi : i ∈ Region.ready .any ops listed) {K : Act → World → Prop}
    (hK : ∀ m' φ' a' w', Inv D s A ops T0 H0 nt φ0 w0 (listed.setIfInBounds i true) m' φ' a' w' → K a' w') : wpOpIn (wideR rd) 0 P ops Q i K a w := by
  obtain ⟨hun, o, ho, hpre⟩ := mem_ready.1 hi
  have hun' := getD_both hun
  have hisz : i < ops.size := (Array.getElem?_eq_some_iff.1 ho).1
  obtain ⟨e, he, rfl⟩ := R.all i hisz
  have hlook := looks_ok R.hM R.fin R.one R.haz R.all I.shut I.w1 I.w2 he ho hun' hpre
  have hρ := restr_ok (a := a) hlook
  have hlsz : e.i < listed.size := by rw [I.shut.size]; exact hisz
  have hshut : Shut' .any ops (listed.setIfInBounds e.i true) := Shut'.set I.shut hi
  have hbind : ops[e.i]?.bind (·.dst) = o.dst := by rw [ho]; rfl
  have hok := R.fin.ok
  unfold PS.Ok at hok
  have hclL : ∀ j i, dep' M j i = true → (∀ o, ops[j]? = some o → ∀ x ∈ o.after, Region.binds .any x = true → listed.getD x.on false = true) → listed.getD i false = true := by
    intro j i hd hp
    rw [R.hM] at hd
    exact dep'_in (L := fun k => listed.getD k false = true) (fun k o hk hko x hx hb => I.shut.closed k o hko hk x hx hb) j i hd hp
  have hpre' : ∀ o', ops[e.i]? = some o' → ∀ x ∈ o'.after, Region.binds .any x = true → listed.getD x.on false = true := fun o' ho' x hx hb => by
    have : o' = o := Option.some.inj (ho'.symm.trans ho)
    subst this; exact hpre x hx hb
  have quiet : isEff e.r = false → ∀ (φ' : Phi) (w' : World) (V : Value), φ.le φ' → conc φ' e.v = some V → Rel φ' (A m) w' → Step φ0 H0 w0 φ' (A m) w' → (∀ f ∈ s.hist, f.l ≤ m → ∀ id ob, f.r = .made id ob → (listed.setIfInBounds e.i true).getD f.i false = false → φ'.at_ id = none) →
      Inv D s A ops T0 H0 nt φ0 w0 (listed.setIfInBounds e.i true) m φ' (a.put o.dst V) w' := by
    intro hE φ' w' V hle hv hR' hS' hph
    obtain ⟨g1, g2⟩ := slots_put (e := e) R.one I.size (R.dst e he o ho) hle he (fun f hf h => R.uniq he hf h) ho hlsz hv I.w1 I.w2
    rw [hbind] at g1 g2
    refine ⟨I.ml, fun f hf hfe => ?_, hR', hS', hph, I.lt, I.ds, ?_, ?_, g1, g2, hshut⟩
    · have hne : e.i ≠ f.i := fun h => by rw [R.uniq hf he h] at hE; rw [hE] at hfe; cases hfe
      rw [getD_other hne]; exact I.effs f hf hfe
    · have := I.size; cases hd : o.dst <;> simp [Act.put, this]
    · have := I.defers; cases hd : o.dst <;> simp [Act.put, this]
  have phq : ∀ f ∈ s.hist, f.l ≤ m → ∀ id ob, f.r = .made id ob → (listed.setIfInBounds e.i true).getD f.i false = false → φ.at_ id = none := by
    intro f hf hfl id ob hr hl
    by_cases h : e.i = f.i
    · rw [← h, getD_self hlsz] at hl; cases hl
    · rw [getD_other h] at hl; exact I.ph f hf hfl id ob hr hl
  have hlev : isEff e.r = false → e.l ≤ m := by
    intro hE
    rcases Nat.eq_zero_or_pos e.l with h0 | h0
    · omega
    · obtain ⟨f, hf, hfe, hfl, hd⟩ := open_before R.fin he e.l h0 (by rw [hE]; simp)
      have := hclL e.i f.i hd hpre'
      have := (I.effs f hf hfe).1 this
      omega
  have hrec : isEff e.r = false → RecOk P ops e (A m) := by
    intro hE
    have hl := hlev hE
    refine chk_all R.fin R.chk R.AB m I.ml e he hE hl ?_
    by_cases hlm : e.l = m
    · exact .inl hlm
    · refine .inr fun f hf hfe hfl => ?_
      cases hd : dep' M f.i e.i with
      | false => rfl
      | true =>
        have hfl' := (I.effs f hf hfe).2 (by omega)
        have := hclL f.i e.i hd fun o' ho' x hx hb => I.shut.closed f.i o' ho' hfl' x hx hb
        rw [hun'] at this; cases this
  have hent : EntOk P callF ops e := by
    obtain ⟨l1, l2, hsp⟩ := List.append_of_mem he
    rw [hsp] at hok
    obtain ⟨⟨T', H', l'', hh⟩, _⟩ := hist_split hok
    exact hh.2.2.2.1
  obtain ⟨o2, ho2, hent⟩ := hent
  have : o2 = o := Option.some.inj (ho2.symm.trans ho)
  subst this
  unfold wpOpIn
  simp only [ho]
  cases hr : e.r with
  | still =>
    rw [hr] at hent
    obtain ⟨_, hent⟩ := hent
    have hE : isEff e.r = false := by rw [hr]; rfl
    rcases hent with ⟨hw, hv⟩ | ⟨hw, hv⟩
    · rw [if_neg (by rw [wantedV_ok hlook hw]; simp)]
      exact ⟨fun _ _ => trivial, hK m φ _ w (quiet hE φ w undef (Phi.le_refl φ) (by rw [hv]; rfl) I.rel I.step phq)⟩
    · rw [if_pos (wantedV_ok hlook hw)]
      rw [evP_congr _ (restr_eq _ _)] at hv
      obtain ⟨V, g1, g2⟩ := evP_ok (P := P) hρ hv
      refine wpIn_of_wp (evP_nd hv) ?_
      unfold Oper.wp
      rw [g2 w]
      exact hK m φ _ w (quiet hE φ w V (Phi.le_refl φ) g1 I.rel I.step phq)
  | read =>
    rw [hr] at hent
    obtain ⟨_, hw⟩ := hent
    have hE : isEff e.r = false := by rw [hr]; rfl
    have hrc := hrec hE
    unfold RecOk at hrc
    rw [hr] at hrc
    have hv := hrc o2 ho
    rw [if_pos (wantedV_ok hlook hw)]
    rw [evRd_congr _ (restr_eq _ _)] at hv
    obtain ⟨V, g1, g2⟩ := evRd_ok (P := P) I.rel hρ hv
    refine wpIn_of_wp (evRd_nd hv) ?_
    unfold Oper.wp
    rw [g2]
    exact hK m φ _ w (quiet hE φ w V (Phi.le_refl φ) g1 I.rel I.step phq)
  | made id ob =>
    rw [hr] at hent
    obtain ⟨hw, _, _, mk, hv, hev⟩ := hent
    have hE : isEff e.r = false := by rw [hr]; rfl
    have hrc := hrec hE
    unfold RecOk at hrc
    rw [hr] at hrc
    rw [if_pos (wantedV_ok hlook hw)]
    rw [evN_congr _ (restr_eq _ _)] at hv
    obtain ⟨c, x, n, V, g1, g2, g3⟩ := evN_ok (P := P) hρ hv w
    have hel := hlev hE
    have hph := I.ph e he hel id ob hr hun'
    obtain ⟨hlt1, hlt2⟩ := I.lt e he hel id ob hr
    have hle := Phi.le_put (B := ⟨w.heap.size, 0, x⟩) hph
    have hborn := I.rel.born (c := c) (e := x) (n := n) hph hlt2 hrc g2
    have hsb := Step.born (H := A m) (c := c) (e := x) (n := n) hph (fun i B hi => (I.rel.dom i B hi).2)
    refine wpIn_of_wp (evN_nd hv) ?_
    unfold Oper.wp
    rw [g1]
    have hS := I.step
    refine hK m (φ.put id ⟨w.heap.size, 0, x⟩) _ (pushW w c n) (quiet hE _ _ V hle (by rw [hev]; exact g3 _ _ (Phi.put_at _ _ _)) hborn ⟨Phi.le_trans hS.le hle, fun j C hC => ?_, ?_, fun b hb hn => ?_, fun b hb hown => ?_, hS.next, hS.tape, hS.os, hS.output⟩ fun f hf hfl id' ob' hr' hl => ?_)
    · by_cases hj : j = id
      · subst hj; exact .inr hlt1
      · rw [Phi.put_ne hj] at hC; exact hS.new j C hC
    · simp only [pushW, Array.size_push]; exact Nat.le_succ_of_le hS.size
    · rw [hsb.1 b (Nat.lt_of_lt_of_le hb hS.size)]; exact hS.keep b hb hn
    · exact hS.own b hb (hsb.2 b (Nat.lt_of_lt_of_le hb hS.size) hown)
    · have hne : id' ≠ id := fun h => by
        subst h
        have := I.ds f hf e he hfl hel id' ob' ob hr' hr
        rw [this, getD_self hlsz] at hl; cases hl
      rw [Phi.put_ne hne]; exact phq f hf hfl id' ob' hr' hl
  | eff =>
    have hE : isEff e.r = true := by rw [hr]; rfl
    rw [hr] at hent
    have hgt : ¬ e.l ≤ m := fun h => by have := (I.effs e he hE).2 h; rw [hun'] at this; cases this
    have hel : e.l = m + 1 := by
      refine Classical.byContradiction fun hne => ?_
      obtain ⟨f, hf, hfe, hfl, hd⟩ := open_before R.fin he (e.l - 1) (by omega) (by rw [hE]; simp; omega)
      have := hclL e.i f.i hd hpre'
      have := (I.effs f hf hfe).1 this
      omega
    have hmsl : m + 1 ≤ s.l := by have := lev_le hok e he; omega
    have FA := R.AB m I.ml
    have FB := R.AB (m + 1) hmsl
    have eH : e.H = A m := FA.fa e he hE hel
    have eB : e.H' = B (m + 1) := FB.fb e he hE hel
    have loud : ∀ (φ' : Phi) (w' : World) (V : Value), conc φ' e.v = some V → Rel φ' (B (m + 1)) w' → Step φ (A m) w φ' (B (m + 1)) w' → Inv D s A ops T0 H0 nt φ0 w0 (listed.setIfInBounds e.i true) (m + 1) φ' (a.put o2.dst V) w' := by
      intro φ' w' V hv hR' hS'
      obtain ⟨g1, g2⟩ := slots_put (e := e) R.one I.size (R.dst e he o2 ho) hS'.le he (fun f hf h => R.uniq he hf h) ho hlsz hv I.w1 I.w2
      rw [hbind] at g1 g2
      obtain ⟨k1, k2⟩ := FB.grow φ' w' hR'
      have hS2 := I.step.trans hS'
      have hlt : ∀ f ∈ s.hist, f.l ≤ m + 1 → ∀ id ob, f.r = .made id ob → H0.next ≤ id ∧ id < (A (m + 1)).next := by
        intro f hf hfl id ob hfr
        have hn1 := FB.nxt
        have hn2 := hS'.next
        have hn3 := hS2.next
        by_cases h : f.l ≤ m
        · have := I.lt f hf h id ob hfr; omega
        · have := FB.made f hf (by omega) id ob hfr; omega
      refine ⟨hmsl, fun f hf hfe => ?_, k1, ⟨hS2.le, hS2.new, hS2.size, hS2.keep, fun b hb ho' => hS2.own b hb (k2 b ho'), Nat.le_trans hS2.next FB.nxt, hS2.tape, hS2.os, hS2.output⟩, fun f hf hfl id ob hfr hl => ?_, hlt, fun f hf f' hf' hfl hfl' id ob ob' hr1 hr2 => ?_, ?_, ?_, g1, g2, hshut⟩
      · by_cases hfe' : e.i = f.i
        · rw [← hfe', getD_self hlsz]
          have : f = e := R.uniq he hf hfe'.symm
          subst this
          exact ⟨fun _ => by omega, fun _ => rfl⟩
        · rw [getD_other hfe', I.effs f hf hfe]
          refine ⟨fun h => by omega, fun h => ?_⟩
          rcases Nat.lt_or_ge m f.l with h2 | h2
          · have := eff_uniq hok f hf e he hfe hE (by omega)
            subst this; exact absurd rfl hfe'
          · exact h2
      · have hne : e.i ≠ f.i := fun h => by rw [← h, getD_self hlsz] at hl; cases hl
        rw [getD_other hne] at hl
        cases hat : φ'.at_ id with
        | none => rfl
        | some C =>
          exfalso
          by_cases h : f.l ≤ m
          · have h1 := I.ph f hf h id ob hfr hl
            rcases hS'.new id C hat with h2 | h2
            · rw [h1] at h2; cases h2
            · have := (I.lt f hf h id ob hfr).2; omega
          · have h1 := (FB.made f hf (by omega) id ob hfr).1
            have := (hR'.dom id C hat).1; omega
      · have hn2 := hS'.next
        by_cases h : f.l ≤ m <;> by_cases h' : f'.l ≤ m
        · exact I.ds f hf f' hf' h h' id ob ob' hr1 hr2
        · have h1 := (I.lt f hf h id ob hr1).2
          have h2 := (FB.made f' hf' (by omega) id ob' hr2).1; omega
        · have h1 := (I.lt f' hf' h' id ob' hr2).2
          have h2 := (FB.made f hf (by omega) id ob hr1).1; omega
        · exact FB.dist f hf f' hf' (by omega) (by omega) id ob ob' hr1 hr2
      · have := I.size; cases hd : o2.dst <;> simp [Act.put, this]
      · have := I.defers; cases hd : o2.dst <;> simp [Act.put, this]
    rcases hent with ⟨hw, hv, hH⟩ | ⟨hw, hv⟩
    · rw [if_neg (by rw [wantedV_ok hlook hw]; simp)]
      have hBA : B (m + 1) = A m := by rw [← eB, hH, eH]
      exact ⟨fun _ _ => trivial, hK (m + 1) φ _ w (loud φ w undef (by rw [hv]; rfl) (by rw [hBA]; exact I.rel) (by rw [hBA]; exact Step.refl _ _ _))⟩
    · rw [if_pos (wantedV_ok hlook hw)]
      rw [runOp_congr _ (restr_eq _ _), eH, eB] at hv
      refine (runOp_ok hc I.step I.rel hρ hv fun φ' x w' hR' hS' hx => ?_)
      exact hK (m + 1) φ' _ w' (loud φ' w' x hx hR' hS')
end
end Ev
end Go.Proofs.YtifoekadjnlhcaaGreatDoor
noncomputable section
namespace Go.Proofs.YtifoekadjnlhcaaGreatDoor
open Go.RowKit
set_option linter.unusedVariables false
set_option linter.unusedSimpArgs false
namespace Ev
variable {D : List Deferred} {rd : Option Nat}
section
variable {P : Program} {callF : Caller} {ops : Array Oper} {T0 : Tr Value} {H0 : Heap} {nt : Nat}
theorem some_ready : ∀ {h : List Ent} {T : Tr Value} {H : Heap} {l : Nat} {listed : Array Bool}, HistOk P callF ops T0 H0 h T H l → (∃ e ∈ h, listed.getD e.i false = false) → ∃ e ∈ h, listed.getD e.i false = false ∧ ∀ o, ops[e.i]? = some o → ∀ x ∈ o.after, Region.binds .any x = true → listed.getD x.on false = true
  | [], _, _, _, _, _, h => by obtain ⟨e, he, _⟩ := h; simp at he
  | e :: h, T, H, l, listed, hh, hx => by
    obtain ⟨_, _, _, _, hne, hp, l', _, hr⟩ := hh
    by_cases hy : ∃ f ∈ h, listed.getD f.i false = false
    · obtain ⟨f, hf, g⟩ := some_ready hr hy
      exact ⟨f, by simp [hf], g⟩
    · have hall : ∀ f ∈ h, listed.getD f.i false = true := fun f hf => by
        cases hl : listed.getD f.i false with
        | true => rfl
        | false => exact absurd ⟨f, hf, hl⟩ hy
      obtain ⟨f, hf, hfl⟩ := hx
      rcases List.mem_cons.1 hf with rfl | hf
      · refine ⟨f, by simp, hfl, fun o ho x hx hb => ?_⟩
        obtain ⟨g, hg, hgi⟩ := hp o ho x hx hb
        rw [← hgi]; exact hall g hg
      · rw [hall f hf] at hfl; cases hfl
theorem ready_of {listed : Array Bool} {i : Nat} {o : Oper} (hs : listed.size = ops.size) (ho : ops[i]? = some o) (hl : listed.getD i false = false) (hp : ∀ x ∈ o.after, Region.binds .any x = true → listed.getD x.on false = true) : i ∈ Region.ready .any ops listed := by
  have hi : i < listed.size := by rw [hs]; exact (Array.getElem?_eq_some_iff.1 ho).1
  refine mem_ready.2 ⟨?_, o, ho, hp⟩
  simpa [Array.getD_eq_getD_getElem?, hi] using hl
theorem sched {s : PS} {M : List Nat} {A B : Nat → Heap} (R : Run P callF ops T0 H0 nt s M A B) {φ0 : Phi} {w0 : World} (hc : CallOk P callF φ0 H0 w0) {Q : Exit → Act → World → Prop}
    (hQ : ∀ φ' a' w', Rel φ' s.H w' → FRel D φ' nt s.T a' → Step φ0 H0 w0 φ' s.H w' → Q .normal a' w') :
    ∀ (fuel : Nat) (listed : Array Bool) (m : Nat) (φ : Phi) (a : Act) (w : World), Inv D s A ops T0 H0 nt φ0 w0 listed m φ a w → cntU listed ops.size = fuel → wpAnyIn (wideR rd) 0 P .any ops Q fuel listed a w := by
  intro fuel
  induction fuel with
  | zero =>
    intro listed m φ a w I hcnt
    have hall := cntU_zero _ hcnt
    refine ⟨?_, ?_⟩
    · cases hrd : Region.ready .any ops listed with
      | nil => rfl
      | cons i l =>
        exfalso
        obtain ⟨hun, o, ho, _⟩ := mem_ready.1 (show i ∈ Region.ready .any ops listed by rw [hrd]; simp)
        have := hall i (Array.getElem?_eq_some_iff.1 ho).1
        rw [getD_both hun] at this; cases this
    · have hin : ∀ e ∈ s.hist, ∃ o, ops[e.i]? = some o := by
        intro e he
        obtain ⟨l1, l2, hsp⟩ := List.append_of_mem he
        have hok := R.fin.ok
        unfold PS.Ok at hok
        rw [hsp] at hok
        obtain ⟨⟨T', H', l'', hh⟩, _⟩ := hist_split hok
        obtain ⟨o, ho, _⟩ := hh.2.2.2.1
        exact ⟨o, ho⟩
      have hlist : ∀ e ∈ s.hist, listed.getD e.i false = true := fun e he => by
        obtain ⟨o, ho⟩ := hin e he
        exact hall e.i (Array.getElem?_eq_some_iff.1 ho).1
      have hml : m = s.l := by
        refine Classical.byContradiction fun hne => ?_
        have := I.ml
        obtain ⟨f, hf, hfe, hfl⟩ := eff_ex R.fin.ok (m + 1) (by omega) (by omega)
        have := (I.effs f hf hfe).1 (hlist f hf)
        omega
      have hA := (R.AB m I.ml).tp hml
      have hR := I.rel
      have hS := I.step
      rw [hA] at hR hS
      refine hQ φ a w hR ⟨I.size, fun t => ?_, I.defers⟩ hS
      have htmp := R.fin.ok.tmp t
      by_cases hw : ∃ g ∈ s.hist, ∃ og, ops[g.i]? = some og ∧ og.dst = some t
      · obtain ⟨g, hg, og, hog, hgd⟩ := hw
        rw [htmp.1 g hg og hog hgd]
        exact I.w1 g hg (hlist g hg) og hog t hgd
      · rw [htmp.2 fun g hg og hog hgd => hw ⟨g, hg, og, hog, hgd⟩]
        exact I.w2 t fun g hg _ og hog hgd => hw ⟨g, hg, og, hog, hgd⟩
  | succ fuel ih =>
    intro listed m φ a w I hcnt
    refine ⟨fun hnil => ?_, fun i hi => ?_⟩
    · exfalso
      have hex : ∃ i, i < ops.size ∧ listed.getD i false = false := by
        refine Classical.byContradiction fun hno => ?_
        have hz : ∀ n, n ≤ ops.size → cntU listed n = 0 := by
          intro n
          induction n with
          | zero => intro _; rfl
          | succ n ihn =>
            intro hn
            rw [cntU_succ, ihn (by omega)]
            cases hl : listed.getD n false with
            | true => rfl
            | false => exact absurd ⟨n, by omega, hl⟩ hno
        rw [hz _ (Nat.le_refl _)] at hcnt; cases hcnt
      obtain ⟨i, hi, hil⟩ := hex
      obtain ⟨e, he, rfl⟩ := R.all i hi
      obtain ⟨f, hf, hfl, hfp⟩ := some_ready R.fin.ok ⟨e, he, hil⟩
      obtain ⟨l1, l2, hsp⟩ := List.append_of_mem hf
      have hok := R.fin.ok
      unfold PS.Ok at hok
      rw [hsp] at hok
      obtain ⟨⟨T', H', l'', hh⟩, _⟩ := hist_split hok
      obtain ⟨o, ho, _⟩ := hh.2.2.2.1
      have := ready_of I.shut.size ho hfl (hfp o ho)
      rw [hnil] at this; simp at this
    · obtain ⟨hun, o, ho, hpre⟩ := mem_ready.1 hi
      have hisz : i < ops.size := (Array.getElem?_eq_some_iff.1 ho).1
      refine inv_step R hc I hi fun m' φ' a' w' I' => ih _ m' φ' a' w' I' ?_
      have := cntU_set (by rw [I.shut.size]; exact hisz) (getD_both hun) ops.size hisz
      omega
def dstOk (nt : Nat) (ops : Array Oper) : Bool := ops.toList.all fun o => match o.dst with | some d => decide (d < nt) | none => true
theorem eff_pos : ∀ {h : List Ent} {T : Tr Value} {H : Heap} {l : Nat}, HistOk P callF ops T0 H0 h T H l → ∀ e ∈ h, isEff e.r = true → 1 ≤ e.l
  | [], _, _, _, _, e, he, _ => by simp at he
  | f :: h, T, H, l, hh, e, he, hE => by
    obtain ⟨_, _, hl, _, _, _, l', hl', hr⟩ := hh
    rcases List.mem_cons.1 he with rfl | he
    · rw [if_pos hE] at hl'; omega
    · exact eff_pos hr e he hE
theorem plan_wp (hm : P.follows .mixedOrders = true) {p : Plan} {s : PS} (hok : planOk ops p = true) (hd : dstOk nt ops = true) (hrun : runPlan P callF nt ops p ⟨T0, H0, [], 0⟩ = some s)
    {id : Nat} {φ0 : Phi} {a0 : Act} {w0 : World} (hc : CallOk P callF φ0 H0 { w0 with drawn := w0.drawn + 1 }) (hR : Rel φ0 H0 w0) (hF : FRel D φ0 nt T0 a0) {Q : Exit → Act → World → Prop}
    (hQ : ∀ φ' a' w', Rel φ' s.H w' → FRel D φ' nt s.T a' → Step φ0 H0 { w0 with drawn := w0.drawn + 1 } φ' s.H w' → Q .normal a' w') : (Code.region id ops true).wpIn (wideR rd) 0 P Q a0 w0 := by
  unfold planOk at hok
  simp only [Bool.and_eq_true] at hok
  obtain ⟨⟨⟨⟨h1, h2⟩, h3⟩, h4⟩, h5⟩ := hok
  have hhz : ∀ (i j : Nat) (oi oj : Oper) (d : Tmp), ops[i]? = some oi → ops[j]? = some oj → oi.dst = some d → i = j ∨ (oj.dst ≠ some d ∧ (d ∈ oj.looksAt ops → dep' (waits [] ops.toList) j i = true ∨ dep' (waits [] ops.toList) i j = true)) := by
    intro i j oi oj d hi hj hdi
    have hi' : i < ops.size := (Array.getElem?_eq_some_iff.1 hi).1
    have hj' : j < ops.size := (Array.getElem?_eq_some_iff.1 hj).1
    have := (List.all_eq_true.1 ((List.all_eq_true.1 h5) i (by simpa using hi'))) j (by simpa using hj')
    unfold hazB at this
    have e1 : ops.toList[i]? = some oi := by simpa using hi
    have e2 : ops.toList[j]? = some oj := by simpa using hj
    rw [e1, e2] at this
    simp only [hdi, Bool.or_eq_true, Bool.and_eq_true, beq_iff_eq, bne_iff_ne, Bool.not_eq_true'] at this
    rcases this with h | ⟨ha, hb⟩
    · exact .inl h
    · refine .inr ⟨ha, fun hl => ?_⟩
      rcases hb with (hb | hb) | hb
      · have : (oj.looksAt ops).contains d = true := by simpa using hl
        rw [this] at hb; cases hb
      · exact .inl hb
      · exact .inr hb
  have hone : OneDst ops := fun i j oi oj d hi hj hdi hdj => by
    rcases hhz i j oi oj d hi hj hdi with h | ⟨h, _⟩
    · exact h
    · exact absurd hdj h
  obtain ⟨f1, f2, f3⟩ := runPlan_final (M := waits [] ops.toList) hone p ⟨T0, H0, [], 0⟩ s [] none ⟨⟨rfl, rfl, rfl⟩, trivial, trivial⟩ hrun h3 h4 ⟨rfl, rfl, rfl⟩ (fun _ e he => by simp at he)
  have hfacts := facts f1.ok
  have hch : ∃ A B : Nat → Heap, ∀ m, m ≤ s.l → Facts H0 s.hist s.H s.l m (A m) (B m) := by
    refine ⟨fun m => if h : m ≤ s.l then (hfacts m h).choose else H0, fun m => if h : m ≤ s.l then (hfacts m h).choose_spec.choose else H0, fun m hm => ?_⟩
    simp only [dif_pos hm]
    exact (hfacts m hm).choose_spec.choose_spec
  obtain ⟨A, B, hAB⟩ := hch
  have R : Run P callF ops T0 H0 nt s (waits [] ops.toList) A B := by
    refine ⟨rfl, f1, f2, hAB, hone, fun i j oi oj d hi hj hdi hl => ?_, fun i hi => ?_, fun e he o ho d hdo => ?_⟩
    · rcases hhz i j oi oj d hi hj hdi with h | ⟨_, h⟩
      · exact .inl h
      · exact .inr (h hl)
    · have := (List.all_eq_true.1 h2) i (by simpa using hi)
      have hmem : i ∈ p.ord := by simpa using this
      have : i ∈ s.hist.map (·.i) := by rw [f3]; simp [hmem]
      rw [List.mem_map] at this
      obtain ⟨e, he, h⟩ := this
      exact ⟨e, he, h⟩
    · have ho' : o ∈ ops.toList := by
        have : ops.toList[e.i]? = some o := by simpa using ho
        exact List.mem_of_getElem? this
      have := (List.all_eq_true.1 hd) o ho'
      rw [hdo] at this
      simpa using this
  refine wpIn_region_any hm ?_
  have F0 := hAB 0 (Nat.zero_le _)
  have hB0 : B 0 = H0 := F0.f0 rfl
  have hR' : Rel φ0 H0 { w0 with drawn := w0.drawn + 1 } := hR.heap rfl
  have hg := F0.grow φ0 { w0 with drawn := w0.drawn + 1 } (by rw [hB0]; exact hR')
  rw [hB0] at hg
  have hlev0 : ∀ e ∈ s.hist, e.l ≤ 0 → ∀ id ob, e.r = .made id ob → H0.next ≤ id ∧ id < (A 0).next := fun e he hl id ob hr => by
    have := F0.made e he (by omega) id ob hr; rw [hB0] at this; exact this
  have hcnt : cntU (Array.replicate ops.size false) ops.size = ops.size := by
    have : ∀ n, n ≤ ops.size → cntU (Array.replicate ops.size false) n = n := by
      intro n
      induction n with
      | zero => intro _; rfl
      | succ n ih => intro hn; rw [cntU_succ, ih (by omega)]; simp [show n < ops.size by omega]
    exact this _ (Nat.le_refl _)
  have hnone : ∀ i, (Array.replicate ops.size false).getD i false = false := by
    intro i; by_cases h : i < ops.size <;> simp [Array.getD_eq_getD_getElem?, h]
  refine sched R hc hQ ops.size _ 0 φ0 a0 { w0 with drawn := w0.drawn + 1 } ⟨Nat.zero_le _, fun f hf hfe => ?_, hg.1, ?_, fun e he hl id ob hr _ => ?_, hlev0, fun e he e' he' hl hl' id ob ob' h1 h2 => F0.dist e he e' he' (by omega) (by omega) id ob ob' h1 h2, hF.size, hF.defers, fun e he hl => ?_, fun t _ => hF.vals t, ?_⟩ hcnt
  · rw [hnone]
    have := eff_pos f1.ok f hf hfe
    exact ⟨(fun h => by cases h), (fun h => by omega)⟩
  · exact ⟨Phi.le_refl φ0, fun _ _ h => .inl h, Nat.le_refl _, fun _ _ _ => rfl, fun b _ hb => hg.2 b hb, by have := F0.nxt; rw [hB0] at this; exact this, rfl, rfl, rfl⟩
  · cases hat : φ0.at_ id with
    | none => rfl
    | some C =>
      have h1 := (hlev0 e he hl id ob hr).1
      have := (hR.dom id C hat).1; omega
  · rw [hnone] at hl; cases hl
  · exact ⟨by simp, fun j o hj hl => by rw [hnone] at hl; cases hl⟩
end
end Ev
end Go.Proofs.YtifoekadjnlhcaaGreatDoor
noncomputable section
namespace Go.Proofs.YtifoekadjnlhcaaGreatDoor
open Go.RowKit
set_option linter.unusedVariables false
set_option linter.unusedSimpArgs false
namespace Ev
abbrev PuR := Program → Tr Value → Option Value
def andV (o : Option Value) (k : Value → Option Value) : Option Value := @Option.rec Value (fun _ => Option Value) none k o
def pMove (x : Operand) : PuR := fun _ T => opvK x T
def pBin (op : BinOp) (t : TypeId) (x y : Operand) (_ : TypeId) : PuR := fun P T => andV (opvK x T) fun a => andV (opvK y T) fun b => binK P op t x y a b
def pUn (op : UnOp) (_ : TypeId) (x : Operand) : PuR := fun _ T => andV (opvK x T) fun a => unK op a
def pField (s : TypeId) (x : Operand) (f : Nat) : PuR := fun P T => andV (opvK x T) fun v => fieldF P s v f
def pIndex (t : TypeId) (x i : Operand) : PuR := fun P T => andV (opvK x T) fun v => andV (opvK i T) fun j => indexK P t v j
def pExtract (x : Operand) (i : Nat) : PuR := fun _ T => andV (opvK x T) fun v => extractV v i
def pPick (c a b : Operand) : PuR := fun _ T => andV (opvK c T) fun v => pickK a b T v
def pNil (x : Operand) : PuR := fun _ T => andV (opvK x T) nilK
def pureD : Op → PuR :=
  @Op.rec (fun _ => PuR)
    pMove
    pMove
    pPick
    (fun _ _ _ => none)
    (fun _ _ _ _ => none)
    (fun x0 x1 P T => evP P (fun x => opvK x T) (.build x0 x1))
    (fun _ _ _ _ _ => none)
    (fun _ _ _ _ _ _ => none)
    (fun _ _ _ _ => none)
    (fun _ _ _ _ _ => none)
    (fun _ _ _ => none)
    (fun _ _ _ => none)
    pNil
    pBin
    pUn
    (fun x0 x1 x2 P T => evP P (fun x => opvK x T) (.convert x0 x1 x2))
    (fun x0 x1 P T => evP P (fun x => opvK x T) (.sliceToArrayPointer x0 x1))
    (fun x0 x1 P T => evP P (fun x => opvK x T) (.makeInterface x0 x1))
    (fun x0 x1 x2 P T => evP P (fun x => opvK x T) (.makeFunc x0 x1 x2))
    (fun _ _ _ _ => none)
    (fun _ _ _ _ => none)
    (fun _ _ _ _ _ => none)
    (fun x0 x1 x2 x3 x4 P T => evP P (fun x => opvK x T) (.slice x0 x1 x2 x3 x4))
    pField
    (fun x0 x1 x2 P T => evP P (fun x => opvK x T) (.field x0 x1 x2))
    pIndex
    (fun x0 x1 x2 P T => evP P (fun x => opvK x T) (.index x0 x1 x2))
    (fun _ _ _ _ _ _ => none)
    (fun _ _ _ _ _ _ => none)
    (fun _ _ _ _ _ => none)
    (fun _ _ _ _ _ _ => none)
    (fun _ _ _ _ => none)
    (fun _ _ _ _ => none)
    (fun _ _ _ => none)
    (fun _ _ _ _ _ _ => none)
    pExtract
    (fun x0 P T => evP P (fun x => opvK x T) (.call x0))
    (fun _ _ _ => none)
    (fun _ _ _ => none)
    (fun _ _ _ => none)
    (fun _ _ _ _ => none)
    (fun _ _ _ _ _ => none)
    (fun _ _ _ _ => none)
def readD : Op → Program → Tr Value → Heap → Option Value :=
  @Op.rec (fun _ => Program → Tr Value → Heap → Option Value)
    (fun _ _ _ _ => none)
    (fun _ _ _ _ => none)
    (fun _ _ _ _ _ _ => none)
    (fun _ _ _ _ => none)
    (fun _ _ _ _ _ => none)
    (fun _ _ _ _ _ => none)
    (fun _ _ _ _ _ _ => none)
    (fun _ _ _ _ _ _ _ => none)
    (fun t a P T H => @Option.rec Value (fun _ => Option Value) none (fun v => loadF P H t v) (opvK a T))
    (fun _ _ _ _ _ _ => none)
    (fun _ _ _ _ => none)
    (fun _ _ _ _ => none)
    (fun _ _ _ _ => none)
    (fun _ _ _ _ _ _ _ _ => none)
    (fun _ _ _ _ _ _ => none)
    (fun x0 x1 x2 P T H => evRd P (fun x => opvK x T) H (.convert x0 x1 x2))
    (fun _ _ _ _ _ => none)
    (fun _ _ _ _ _ => none)
    (fun _ _ _ _ _ _ => none)
    (fun _ _ _ _ _ => none)
    (fun _ _ _ _ _ => none)
    (fun _ _ _ _ _ _ => none)
    (fun _ _ _ _ _ _ _ _ => none)
    (fun _ _ _ _ _ _ => none)
    (fun _ _ _ _ _ _ => none)
    (fun _ _ _ _ _ _ => none)
    (fun _ _ _ _ _ _ => none)
    (fun x0 x1 x2 x3 P T H => evRd P (fun x => opvK x T) H (.lookup x0 x1 x2 x3))
    (fun _ _ _ _ _ _ _ => none)
    (fun _ _ _ _ _ _ => none)
    (fun _ _ _ _ _ _ _ => none)
    (fun _ _ _ _ _ => none)
    (fun _ _ _ _ _ => none)
    (fun x0 P T H => evRd P (fun x => opvK x T) H (.entry x0))
    (fun _ _ _ _ _ _ _ => none)
    (fun _ _ _ _ _ => none)
    (fun x0 P T H => evRd P (fun x => opvK x T) H (.call x0))
    (fun _ _ _ _ => none)
    (fun _ _ _ _ => none)
    (fun _ _ _ _ => none)
    (fun _ _ _ _ _ => none)
    (fun _ _ _ _ _ _ => none)
    (fun _ _ _ _ _ => none)
def newD : Op → Program → Tr Value → Option (AObj × Mk) :=
  @Op.rec (fun _ => Program → Tr Value → Option (AObj × Mk))
    (fun _ _ _ => none)
    (fun _ _ _ => none)
    (fun _ _ _ _ _ => none)
    (fun x0 P T => evN P (fun x => opvK x T) (.alloc x0))
    (fun x0 x1 P T => evN P (fun x => opvK x T) (.box x0 x1))
    (fun _ _ _ _ => none)
    (fun x0 x1 x2 P T => evN P (fun x => opvK x T) (.buildSlice x0 x1 x2))
    (fun _ _ _ _ _ _ => none)
    (fun _ _ _ _ => none)
    (fun _ _ _ _ _ => none)
    (fun _ _ _ => none)
    (fun _ _ _ => none)
    (fun _ _ _ => none)
    (fun _ _ _ _ _ _ _ => none)
    (fun _ _ _ _ _ => none)
    (fun x0 x1 x2 P T => evN P (fun x => opvK x T) (.convert x0 x1 x2))
    (fun _ _ _ _ => none)
    (fun _ _ _ _ => none)
    (fun _ _ _ _ _ => none)
    (fun x0 x1 P T => evN P (fun x => opvK x T) (.makeMap x0 x1))
    (fun _ _ _ _ => none)
    (fun x0 x1 x2 P T => evN P (fun x => opvK x T) (.makeSlice x0 x1 x2))
    (fun _ _ _ _ _ _ _ => none)
    (fun _ _ _ _ _ => none)
    (fun _ _ _ _ _ => none)
    (fun _ _ _ _ _ => none)
    (fun _ _ _ _ _ => none)
    (fun _ _ _ _ _ _ => none)
    (fun _ _ _ _ _ _ => none)
    (fun _ _ _ _ _ => none)
    (fun _ _ _ _ _ _ => none)
    (fun _ _ _ _ => none)
    (fun _ _ _ _ => none)
    (fun _ _ _ => none)
    (fun _ _ _ _ _ _ => none)
    (fun _ _ _ _ => none)
    (fun _ _ _ => none)
    (fun _ _ _ => none)
    (fun _ _ _ => none)
    (fun _ _ _ => none)
    (fun _ _ _ _ => none)
    (fun _ _ _ _ _ => none)
    (fun _ _ _ _ => none)
theorem pureD_eq (op : Op) (P : Program) (T : Tr Value) : pureD op P T = evP P (opV T) op := by
  have hρ : (fun x => opvK x T) = opV T := funext fun x => opvK_eq x T
  cases op
  case move x => exact opvK_eq x T
  case assign x => exact opvK_eq x T
  case binOp op t x y u =>
    show andV (opvK x T) _ = _
    rw [opvK_eq]; simp only [evP]
    cases opV T x with
    | none => rfl
    | some a =>
      show andV (opvK y T) _ = _
      rw [opvK_eq]
      cases opV T y with
      | none => rfl
      | some b => exact binK_eq P op t x y a b
  case unOp op t x =>
    show andV (opvK x T) _ = _
    rw [opvK_eq]; simp only [evP]
    cases opV T x with
    | none => rfl
    | some a => exact unK_eq op a
  case fieldAddr s x f => show andV (opvK x T) _ = _; rw [opvK_eq]; simp only [evP]; cases opV T x with
    | none => rfl
    | some v => exact fieldF_eq P s v f
  case indexAddr t x i => show andV (opvK x T) _ = _; rw [opvK_eq]; simp only [evP]; cases opV T x with
    | none => rfl
    | some v => show andV (opvK i T) _ = _; rw [opvK_eq]; cases opV T i with
      | none => rfl
      | some j => exact indexK_eq P t v j
  case extract x i => show andV (opvK x T) _ = _; rw [opvK_eq]; simp only [evP]; cases opV T x <;> rfl
  case pick c x y => show andV (opvK c T) _ = _; rw [opvK_eq]; simp only [evP]; cases opV T c with
    | none => rfl
    | some v =>
      show pickK x y T v = _
      cases v <;> try rfl
      next b => cases b with
        | true => exact opvK_eq x T
        | false => exact opvK_eq y T
  case nilCheck x => show andV (opvK x T) _ = _; rw [opvK_eq]; simp only [evP]; cases opV T x with
    | none => rfl
    | some v =>
      show nilK v = _
      cases v <;> try rfl
      next p => cases p <;> rfl
      next f p q => cases f <;> rfl
  all_goals first | rfl | (rw [← hρ]; rfl)
theorem readD_eq (op : Op) (P : Program) (T : Tr Value) (H : Heap) : readD op P T H = evRd P (opV T) H op := by
  have hρ : (fun x => opvK x T) = opV T := funext fun x => opvK_eq x T
  cases op
  case load t a =>
    show (@Option.rec Value (fun _ => Option Value) none (fun v => loadF P H t v) (opvK a T)) = _
    rw [opvK_eq]; simp only [evRd, evR]
    cases opV T a with
    | none => rfl
    | some v => exact loadF_eq P H t v
  all_goals first | rfl | (rw [← hρ]; rfl)
theorem newD_eq (op : Op) (P : Program) (T : Tr Value) : newD op P T = evN P (opV T) op := by
  have hρ : (fun x => opvK x T) = opV T := funext fun x => opvK_eq x T
  cases op <;> first | rfl | (rw [← hρ]; rfl)
def andB (a b : Bool) : Bool := @Bool.rec (fun _ => Bool) false b a
theorem andB_t {a b : Bool} (h : andB a b = true) : a = true ∧ b = true := by
  cases a with
  | false => cases h
  | true => exact ⟨rfl, h⟩
def noSpot (o : Option Nat) : Bool := @Option.rec Nat (fun _ => Bool) true (fun _ => false) o
def eqA (x y : Addr) : Bool := andB (Nat.beq x.block y.block) (andB (Nat.beq x.off y.off) (andB (noSpot x.spot) (noSpot y.spot)))
theorem eqA_t {x y : Addr} (h : eqA x y = true) : x = y := by
  obtain ⟨h1, h⟩ := andB_t h
  obtain ⟨h2, h⟩ := andB_t h
  obtain ⟨h3, h4⟩ := andB_t h
  obtain ⟨a, b, c⟩ := x; obtain ⟨d, e, f⟩ := y
  have g1 : a = d := Nat.eq_of_beq_eq_true h1
  have g2 : b = e := Nat.eq_of_beq_eq_true h2
  subst g1; subst g2
  cases c with
  | some c => cases h3
  | none => cases f with
    | some f => cases h4
    | none => rfl
def eqAO (x y : Option Addr) : Bool := @Option.rec Addr (fun _ => Bool) (@Option.rec Addr (fun _ => Bool) true (fun _ => false) y) (fun x => @Option.rec Addr (fun _ => Bool) false (fun y => eqA x y) y) x
theorem eqAO_t {x y : Option Addr} (h : eqAO x y = true) : x = y := by
  cases x with
  | none => cases y with
    | none => rfl
    | some y => cases h
  | some x => cases y with
    | none => cases h
    | some y => rw [eqA_t (show eqA x y = true from h)]
def isInt : Value → IntKind → Nat → Bool := @Value.rec (fun _ => IntKind → Nat → Bool) (fun _ => Unit) (fun _ => Unit) (fun _ => fun _ _ => false) (fun d n k m => @Int.rec (fun _ => Bool) (fun j => andB (Nat.beq (numK d) (numK k)) (Nat.beq j m)) (fun _ => false) n) (fun _ _ => fun _ _ => false) (fun _ _ _ => fun _ _ => false) (fun _ => fun _ _ => false) (fun _ => fun _ _ => false) (fun _ _ _ => fun _ _ => false) (fun _ => fun _ _ => false) (fun _ => fun _ _ => false) (fun _ _ _ _ _ => fun _ _ => false) (fun _ _ => false) (fun _ _ _ => fun _ _ => false) (fun _ _ => false) (fun _ _ => fun _ _ => false) (fun _ _ => fun _ _ => false) (fun _ _ => ()) () (fun _ _ _ _ => ())
def isBool : Value → Bool → Bool := @Value.rec (fun _ => Bool → Bool) (fun _ => Unit) (fun _ => Unit) (fun b c => @Bool.rec (fun _ => Bool) (@Bool.rec (fun _ => Bool) true false c) c b) (fun _ _ => fun _ => false) (fun _ _ => fun _ => false) (fun _ _ _ => fun _ => false) (fun _ => fun _ => false) (fun _ => fun _ => false) (fun _ _ _ => fun _ => false) (fun _ => fun _ => false) (fun _ => fun _ => false) (fun _ _ _ _ _ => fun _ => false) (fun _ => false) (fun _ _ _ => fun _ => false) (fun _ => false) (fun _ _ => fun _ => false) (fun _ _ => fun _ => false) (fun _ _ => ()) () (fun _ _ _ _ => ())
def isPtr : Value → Option Addr → Bool := @Value.rec (fun _ => Option Addr → Bool) (fun _ => Unit) (fun _ => Unit) (fun _ => fun _ => false) (fun _ _ => fun _ => false) (fun _ _ => fun _ => false) (fun _ _ _ => fun _ => false) (fun _ => fun _ => false) (fun a b => eqAO a b) (fun _ _ _ => fun _ => false) (fun _ => fun _ => false) (fun _ => fun _ => false) (fun _ _ _ _ _ => fun _ => false) (fun _ => false) (fun _ _ _ => fun _ => false) (fun _ => false) (fun _ _ => fun _ => false) (fun _ _ => fun _ => false) (fun _ _ => ()) () (fun _ _ _ _ => ())
def isSlc : Value → Option Addr → Nat → Nat → Bool := @Value.rec (fun _ => Option Addr → Nat → Nat → Bool) (fun _ => Unit) (fun _ => Unit) (fun _ => fun _ _ _ => false) (fun _ _ => fun _ _ _ => false) (fun _ _ => fun _ _ _ => false) (fun _ _ _ => fun _ _ _ => false) (fun _ => fun _ _ _ => false) (fun _ => fun _ _ _ => false) (fun a n c b m d => andB (eqAO a b) (andB (Nat.beq n m) (Nat.beq c d))) (fun _ => fun _ _ _ => false) (fun _ => fun _ _ _ => false) (fun _ _ _ _ _ => fun _ _ _ => false) (fun _ _ _ => false) (fun _ _ _ => fun _ _ _ => false) (fun _ _ _ => false) (fun _ _ => fun _ _ _ => false) (fun _ _ => fun _ _ _ => false) (fun _ _ => ()) () (fun _ _ _ _ => ())
def quickD : Value → Value → Bool := @Value.rec (fun _ => Value → Bool) (fun _ => Unit) (fun _ => Unit) (fun c b => isBool b c) (fun d n b => @Int.rec (fun _ => Bool) (fun j => isInt b d j) (fun _ => false) n) (fun _ _ => fun _ => false) (fun _ _ _ => fun _ => false) (fun _ => fun _ => false) (fun a b => isPtr b a) (fun a n c b => isSlc b a n c) (fun _ => fun _ => false) (fun _ => fun _ => false) (fun _ _ _ _ _ => fun _ => false) (fun _ => false) (fun _ _ _ => fun _ => false) (fun _ => false) (fun _ _ => fun _ => false) (fun _ _ => fun _ => false) (fun _ _ => ()) () (fun _ _ _ _ => ())
theorem quickD_t {a b : Value} (h : quickD a b = true) : a = b := by
  cases a <;> try (exact absurd h (by show ¬ false = true; simp))
  next c =>
    cases b <;> try (exact absurd h (by show ¬ false = true; simp))
    next d => cases c <;> cases d <;> first | rfl | cases h
  next d n =>
    cases n with
    | negSucc n => cases h
    | ofNat j =>
      cases b <;> try (exact absurd h (by show ¬ false = true; simp))
      next e m => cases m with
        | negSucc m => cases h
        | ofNat m =>
          obtain ⟨h1, h2⟩ := andB_t (show andB (Nat.beq (numK e) (numK d)) (Nat.beq m j) = true from h)
          rw [numK_inj h1, Nat.eq_of_beq_eq_true h2]
  next p =>
    cases b <;> try (exact absurd h (by show ¬ false = true; simp))
    next q => rw [eqAO_t (show eqAO q p = true from h)]
  next p n c =>
    cases b <;> try (exact absurd h (by show ¬ false = true; simp))
    next q m d =>
      obtain ⟨h1, h⟩ := andB_t (show andB (eqAO q p) (andB (Nat.beq m n) (Nat.beq d c)) = true from h)
      obtain ⟨h2, h3⟩ := andB_t h
      rw [eqAO_t h1, Nat.eq_of_beq_eq_true h2, Nat.eq_of_beq_eq_true h3]
theorem quickD_self {a : Value} (h : quickD a a = true) : beqV a a = true := by
  cases a <;> first | (exact absurd h (by show ¬ false = true; simp)) | simp [beqV]
def beqF (a b : Value) : Bool := @Bool.rec (fun _ => Bool) (beqV a b) true (quickD a b)
theorem beqF_eq (a b : Value) : beqF a b = beqV a b := by
  unfold beqF
  cases h : quickD a b with
  | false => rfl
  | true => have e := quickD_t h; subst e; exact (quickD_self h).symm
def beqCF (a : List (Option Value)) : List (Option Value) → Bool :=
  @List.rec (Option Value) (fun _ => List (Option Value) → Bool) (fun b => @List.rec (Option Value) (fun _ => Bool) true (fun _ _ _ => false) b)
    (fun x _ ih b => @List.rec (Option Value) (fun _ => Bool) false (fun y m _ => @Option.rec Value (fun _ => Bool) (@Option.rec Value (fun _ => Bool) (ih m) (fun _ => false) y) (fun x => @Option.rec Value (fun _ => Bool) false (fun y => andB (beqF x y) (ih m)) y) x) b) a
theorem andB_eq (a b : Bool) : andB a b = (a && b) := by cases a <;> rfl
theorem beqCF_eq : ∀ (a b : List (Option Value)), beqCF a b = beqC a b
  | [], [] => rfl
  | [], _ :: _ => rfl
  | none :: _, [] => rfl
  | some _ :: _, [] => rfl
  | none :: l, none :: m => by rw [beqC]; exact beqCF_eq l m
  | none :: l, some _ :: m => rfl
  | some _ :: l, none :: m => rfl
  | some a :: l, some b :: m => by
    rw [beqC]
    show andB (beqF a b) (beqCF l m) = _
    rw [andB_eq, beqF_eq, beqCF_eq l m]
def beqOF (a b : AObj) : Bool := match a, b with
  | .cells l o m, .cells l' o' m' => andB (beqCF l l') (o == o' && m == m')
  | a, b => beqO a b
theorem beqOF_eq (a b : AObj) : beqOF a b = beqO a b := by
  unfold beqOF
  split
  · rw [beqCF_eq, andB_eq]; exact (Bool.and_assoc _ _ _).symm
  · rfl
def didF (nt : Nat) (s : PS) (o : Oper) (i : Nat) (r : Res) (l : Nat) (H' : Heap) (v : Value) : Option PS :=
  @Option.rec Tmp (fun _ => Option PS) (some ⟨s.T, H', ⟨i, s.T, v, r, l, s.H, H'⟩ :: s.hist, l⟩) (fun d => @Bool.rec (fun _ => Option PS) none (@Option.rec (Tr Value) (fun _ => Option PS) none (fun T' => some ⟨T', H', ⟨i, s.T, v, r, l, s.H, H'⟩ :: s.hist, l⟩) (Tr.set 40 s.T d (some v))) (Nat.blt d nt)) o.dst
theorem didF_eq (nt : Nat) (s : PS) (o : Oper) (i : Nat) (r : Res) (l : Nat) (H' : Heap) (v : Value) : didF nt s o i r l H' v = s.did nt o i v r l H' := by
  unfold didF PS.did putT
  cases o.dst with
  | none => rfl
  | some d =>
    simp only []
    by_cases h : d < nt
    · rw [if_pos h, show Nat.blt d nt = true from by simpa [Nat.blt_eq] using h]
      cases Tr.set 40 s.T d (some v) <;> rfl
    · rw [if_neg h, show Nat.blt d nt = false from by cases hb : Nat.blt d nt with | false => rfl | true => exact absurd (by simpa [Nat.blt_eq] using hb) h]
def forceP : Value → (Value → Option PS) → Option PS :=
  @Value.rec (fun _ => (Value → Option PS) → Option PS) (fun _ => Unit) (fun _ => Unit) (fun b k => @Bool.rec (fun _ => Option PS) (k (.bool false)) (k (.bool true)) b) (fun d n k => @Int.rec (fun _ => Option PS) (fun m => @Nat.rec (fun _ => Option PS) (k (.int d (.ofNat 0))) (fun m _ => k (.int d (.ofNat (Nat.succ m)))) m) (fun m => @Nat.rec (fun _ => Option PS) (k (.int d (.negSucc 0))) (fun m _ => k (.int d (.negSucc (Nat.succ m)))) m) n) (fun d n k => k (.float d n)) (fun d n m k => k (.complex d n m)) (fun s k => k (.string s)) (fun a k => k (.pointer a)) (fun a n c k => k (.slice a n c)) (fun r k => k (.map r)) (fun r k => k (.chan r)) (fun f p q _ _ k => k (.func f p q)) (fun k => k .nilFunc) (fun t v _ k => k (.iface t v)) (fun k => k .nilIface) (fun c _ k => k (.agg c)) (fun c _ k => k (.tuple c)) (fun _ _ => ()) () (fun _ _ _ _ => ())
theorem forceP_eq (v : Value) (k : Value → Option PS) : forceP v k = k v := by
  cases v with
  | int d n => cases n with
    | ofNat m => cases m <;> rfl
    | negSucc m => cases m <;> rfl
  | bool b => cases b <;> rfl
  | _ => rfl
def didK (nt : Nat) (s : PS) (o : Oper) (i : Nat) (v : Value) (r : Res) (l : Nat) (H' : Heap) : Option PS := forceP v (didF nt s o i r l H')
def newK (nt : Nat) (s : PS) (o : Oper) (i : Nat) (p : AObj × Mk) : Option PS := @Option.rec Heap (fun _ => Option PS) none (fun H' => didF nt s o i (.made s.H.next p.1) s.l H' (p.2.val s.H.next)) (s.H.add p.1)
def doN (P : Program) (nt : Nat) (s : PS) (i : Nat) (o : Oper) : Option PS :=
  @Option.rec Value (fun _ => Option PS)
    (@Option.rec Value (fun _ => Option PS)
      (@Option.rec (AObj × Mk) (fun _ => Option PS) none (newK nt s o i) (newD o.op P s.T))
      (fun v => didK nt s o i v .read s.l s.H) (readD o.op P s.T s.H))
    (fun v => didK nt s o i v .still s.l s.H) (pureD o.op P s.T)
def stepNK (P : Program) (nt : Nat) (ops : Array Oper) (s : PS) (i : Nat) : Option PS :=
  @Option.rec Oper (fun _ => Option PS) none (fun o => @Option.rec (Nat × Bool) (fun _ => Option PS) (doN P nt s i o) (fun _ => stepN P nt ops s i) o.guard) (nthK ops.toList i)
theorem stepNK_eq (P : Program) (nt : Nat) (ops : Array Oper) (s : PS) (i : Nat) : stepNK P nt ops s i = stepN P nt ops s i := by
  unfold stepNK
  rw [nthK_eq]
  cases ho : ops.toList[i]? with
  | none => unfold stepN; rw [ho]
  | some o =>
    show (@Option.rec (Nat × Bool) (fun _ => Option PS) (doN P nt s i o) (fun _ => stepN P nt ops s i) o.guard) = _
    cases hg : o.guard with
    | some g => rfl
    | none =>
      show doN P nt s i o = _
      unfold stepN doN
      rw [ho, pureD_eq, readD_eq, newD_eq]
      simp only [hg, wantedV]
      cases evP P (opV s.T) o.op with
      | some v => exact (forceP_eq v _).trans (didF_eq ..)
      | none =>
        cases evRd P (opV s.T) s.H o.op with
        | some v => exact (forceP_eq v _).trans (didF_eq ..)
        | none =>
          cases evN P (opV s.T) o.op with
          | none => rfl
          | some p =>
            obtain ⟨ob, m⟩ := p
            show newK nt s o i (ob, m) = _
            unfold newK
            simp only []
            cases s.H.add ob with
            | none => rfl
            | some H' => exact didF_eq ..
def findK (i : Nat) (h : List Ent) : Option Ent := @List.rec Ent (fun _ => Option Ent) none (fun e _ ih => @Bool.rec (fun _ => Option Ent) ih (some e) (Nat.beq e.i i)) h
theorem findK_eq (i : Nat) : ∀ h : List Ent, findK i h = h.find? (fun e => e.i == i)
  | [] => rfl
  | e :: h => by
    show (@Bool.rec (fun _ => Option Ent) (findK i h) (some e) (Nat.beq e.i i)) = _
    rw [findK_eq i h, List.find?_cons]
    have : (e.i == i) = Nat.beq e.i i := by rw [Bool.eq_iff_iff, beq_iff_eq, Nat.beq_eq]
    rw [this]
    cases Nat.beq e.i i <;> rfl
def recK (P : Program) (s : PS) (o : Oper) (e : Ent) : Res → Bool :=
  @Res.rec (fun _ => Bool) true (@Option.rec Value (fun _ => Bool) false (fun u => beqF u e.v) (readD o.op P e.T s.H)) (fun id ob => @Option.rec AObj (fun _ => Bool) false (fun ob' => beqOF ob' ob) (s.H.get id)) true
def recheckK (P : Program) (ops : Array Oper) (s : PS) (i : Nat) : Bool :=
  @Option.rec Ent (fun _ => Bool) false (fun e => @Option.rec Oper (fun _ => Bool) false (fun o => recK P s o e e.r) (nthK ops.toList i)) (findK i s.hist)
theorem recheckK_eq (P : Program) (ops : Array Oper) (s : PS) (i : Nat) : recheckK P ops s i = recheck P ops s i := by
  unfold recheckK recheck
  rw [findK_eq, nthK_eq]
  cases s.hist.find? (fun e => e.i == i) with
  | none => rfl
  | some e =>
    cases ops.toList[i]? with
    | none => rfl
    | some o =>
      show recK P s o e e.r = _
      simp only []
      cases e.r with
      | still => rfl
      | eff => rfl
      | read =>
        show (@Option.rec Value (fun _ => Bool) false (fun u => beqF u e.v) (readD o.op P e.T s.H)) = _
        rw [readD_eq]
        simp only []
        cases evRd P (opV e.T) s.H o.op with
        | none => rfl
        | some u => exact beqF_eq u e.v
      | made id ob =>
        show (@Option.rec AObj (fun _ => Bool) false (fun ob' => beqOF ob' ob) (s.H.get id)) = _
        simp only []
        cases s.H.get id with
        | none => rfl
        | some ob' => exact beqOF_eq ob' ob
def effK (nt : Nat) (s : PS) (o : Oper) (i : Nat) (p : Value × Heap) : Option PS := didK nt s o i p.1 .eff (Nat.succ s.l) p.2
def stepEK (P : Program) (C : Caller) (nt : Nat) (ops : Array Oper) (s : PS) (i : Nat) : Option PS :=
  @Option.rec Oper (fun _ => Option PS) none (fun o => @Option.rec (Nat × Bool) (fun _ => Option PS) (@Option.rec (Value × Heap) (fun _ => Option PS) none (effK nt s o i) (opK P C s.T s.H o.op)) (fun _ => stepE P C nt ops s i) o.guard) (nthK ops.toList i)
theorem stepEK_eq (P : Program) (C : Caller) (nt : Nat) (ops : Array Oper) (s : PS) (i : Nat) : stepEK P C nt ops s i = stepE P C nt ops s i := by
  unfold stepEK
  rw [nthK_eq]
  cases ho : ops.toList[i]? with
  | none => unfold stepE; rw [ho]
  | some o =>
    show (@Option.rec (Nat × Bool) (fun _ => Option PS) (@Option.rec (Value × Heap) (fun _ => Option PS) none (effK nt s o i) (opK P C s.T s.H o.op)) (fun _ => stepE P C nt ops s i) o.guard) = _
    cases hg : o.guard with
    | some g => rfl
    | none =>
      show (@Option.rec (Value × Heap) (fun _ => Option PS) none (effK nt s o i) (opK P C s.T s.H o.op)) = _
      rw [opK_eq]
      unfold stepE
      rw [ho]
      simp only [hg, wantedV]
      cases runOp P C (opV s.T) s.H o.op with
      | none => rfl
      | some p => obtain ⟨v, H'⟩ := p; exact (forceP_eq v _).trans (didF_eq ..)
def stepsNK (P : Program) (nt : Nat) (ops : Array Oper) (l : List Nat) : PS → Option PS :=
  @List.rec Nat (fun _ => PS → Option PS) (fun s => some s) (fun i _ ih s => @Option.rec PS (fun _ => Option PS) none ih (stepNK P nt ops s i)) l
theorem stepsNK_eq (P : Program) (nt : Nat) (ops : Array Oper) : ∀ (l : List Nat) (s : PS), stepsNK P nt ops l s = stepsN P nt ops l s
  | [], s => rfl
  | i :: l, s => by
    show (@Option.rec PS (fun _ => Option PS) none (stepsNK P nt ops l) (stepNK P nt ops s i)) = _
    rw [stepNK_eq]
    unfold stepsN
    cases stepN P nt ops s i with
    | none => rfl
    | some s' => exact stepsNK_eq P nt ops l s'
def allK (P : Program) (ops : Array Oper) (s : PS) (l : List Nat) : Bool := @List.rec Nat (fun _ => Bool) true (fun i _ ih => @Bool.rec (fun _ => Bool) false ih (recheckK P ops s i)) l
theorem allK_eq (P : Program) (ops : Array Oper) (s : PS) : ∀ l : List Nat, allK P ops s l = l.all (recheck P ops s)
  | [] => rfl
  | i :: l => by
    show (@Bool.rec (fun _ => Bool) false (allK P ops s l) (recheckK P ops s i)) = _
    rw [allK_eq P ops s l, recheckK_eq, List.all_cons]
    cases recheck P ops s i <;> rfl
def runPlanK (P : Program) (C : Caller) (nt : Nat) (ops : Array Oper) (p : Plan) : PS → Option PS :=
  @List.rec Lvl (fun _ => PS → Option PS) (fun s => some s) (fun l _ ih s => @Option.rec PS (fun _ => Option PS) none (fun s1 => @Bool.rec (fun _ => Option PS) none
    (@Option.rec Nat (fun _ => Option PS) (ih s1) (fun e => @Option.rec PS (fun _ => Option PS) none ih (stepEK P C nt ops s1 e)) l.e) (allK P ops s1 l.cs)) (stepsNK P nt ops l.ns s)) p
theorem runPlanK_eq (P : Program) (C : Caller) (nt : Nat) (ops : Array Oper) : ∀ (p : Plan) (s : PS), runPlanK P C nt ops p s = runPlan P C nt ops p s
  | [], s => rfl
  | l :: p, s => by
    show (@Option.rec PS (fun _ => Option PS) none (fun s1 => @Bool.rec (fun _ => Option PS) none
      (@Option.rec Nat (fun _ => Option PS) (runPlanK P C nt ops p s1) (fun e => @Option.rec PS (fun _ => Option PS) none (runPlanK P C nt ops p) (stepEK P C nt ops s1 e)) l.e) (allK P ops s1 l.cs)) (stepsNK P nt ops l.ns s)) = _
    rw [stepsNK_eq]
    unfold runPlan
    cases stepsN P nt ops l.ns s with
    | none => rfl
    | some s1 =>
      show (@Bool.rec (fun _ => Option PS) none (@Option.rec Nat (fun _ => Option PS) (runPlanK P C nt ops p s1) (fun e => @Option.rec PS (fun _ => Option PS) none (runPlanK P C nt ops p) (stepEK P C nt ops s1 e)) l.e) (allK P ops s1 l.cs)) = _
      rw [allK_eq]
      simp only []
      cases hc : l.cs.all (recheck P ops s1) with
      | false => simp
      | true =>
        simp only [if_true]
        cases he : l.e with
        | none => exact runPlanK_eq P C nt ops p s1
        | some e =>
          show (@Option.rec PS (fun _ => Option PS) none (runPlanK P C nt ops p) (stepEK P C nt ops s1 e)) = _
          rw [stepEK_eq]
          simp only []
          cases stepE P C nt ops s1 e with
          | none => rfl
          | some s2 => exact runPlanK_eq P C nt ops p s2
end Ev
end Go.Proofs.YtifoekadjnlhcaaGreatDoor
noncomputable section
namespace Go.Proofs.YtifoekadjnlhcaaGreatDoor
open Go.RowKit
set_option linter.unusedVariables false
set_option linter.unusedSimpArgs false
namespace Ev
def softOp : Op → Bool
  | .store .. | .mapUpdate .. | .insert .. | .mapEntry .. | .entryStore .. | .next .. | .range .. => false
  | .call c => match c.callee with
    | .builtin .len | .builtin .cap | .builtin .min | .builtin .max => true
    | _ => false
  | .go _ | .defer _ | .panic _ | .send .. | .recv .. | .select .. => false
  | _ => true
def needK (o : Oper) : Nat := @List.rec _ (fun _ => Nat) 0 (fun e _ ih => @Bool.rec (fun _ => Nat) ih (Nat.lor (Nat.pow 2 e.on) ih) (Region.binds .any e)) o.after.toList
abbrev PD := Nat × Nat × Nat × Bool
def datP (l : List Oper) : Nat → Nat → List PD := @List.rec Oper (fun _ => Nat → Nat → List PD) (fun _ _ => []) (fun o _ ih i b => (i, b, needK o, softOp o.op) :: ih (Nat.succ i) (Nat.mul 2 b)) l
def mayK (soft : Bool) (done : Nat) (d : PD) : Bool := @Bool.rec (fun _ => Bool) false (@Bool.rec (fun _ => Bool) false (@Bool.rec (fun _ => Bool) true d.2.2.2 soft) (Nat.beq (Nat.land d.2.2.1 done) d.2.2.1)) (Nat.beq (Nat.land done d.2.1) 0)
def firstK (soft : Bool) (done : Nat) (D : List PD) : Option PD := @List.rec PD (fun _ => Option PD) none (fun d _ ih => @Bool.rec (fun _ => Option PD) ih (some d) (mayK soft done d)) D
def depK (M : List Nat) (j i : Nat) : Bool := @Option.rec Nat (fun _ => Bool) false (fun m => Nat.beq (Nat.land (Nat.div m (Nat.pow 2 i)) 1) 1) (nthK M j)
def filtK (M : List Nat) (e : Nat) (ns l : List Nat) : List Nat := @List.rec Nat (fun _ => List Nat) ns (fun i _ ih => @Bool.rec (fun _ => List Nat) (i :: ih) ih (depK M e i)) l
def csK (M : List Nat) (ns before : List Nat) (opened : Option Nat) : List Nat :=
  @Option.rec Nat (fun _ => List Nat) ns (fun e => filtK M e ns before) opened
abbrev GoK := Nat → List Nat → List Nat → Option Nat → Plan
def goK (M : List Nat) (D : List PD) (f : Nat) : GoK :=
  @Nat.rec (fun _ => GoK) (fun _ ns before opened => [⟨ns.reverse, csK M ns before opened, none⟩])
    (fun _ ih done ns before opened => @Option.rec PD (fun _ => Plan)
      (@Option.rec PD (fun _ => Plan) [⟨ns.reverse, csK M ns before opened, none⟩] (fun d => ⟨ns.reverse, csK M ns before opened, some d.1⟩ :: ih (Nat.add done d.2.1) [] (ns ++ before) (some d.1)) (firstK false done D))
      (fun d => ih (Nat.add done d.2.1) (d.1 :: ns) before opened) (firstK true done D)) f
def mkPlan (ops : Array Oper) : Plan := goK (waits [] ops.toList) (datP ops.toList 0 1) ops.toList.length 0 [] [] none
inductive Ex where
  | normal
  | exit (id : Nat)
  | ret
def Ex.to : Ex → Exit
  | .normal => .normal
  | .exit i => .exit i
  | .ret => .ret
def resultsV (P : Program) (T : Tr Value) (H : Heap) : List ResultVar → Option (List Value)
  | [] => some []
  | .tmp t :: r => (resultsV P T H r).map ((T.get t).getD undef :: ·)
  | .cell a t :: r => match loadV P H t ((T.get a).getD undef), resultsV P T H r with
    | some v, some l => some (v :: l)
    | _, _ => none
def packV : List Value → Value
  | [v] => v
  | l => .tuple ⟨l⟩
def initT : Nat → List Value → Tr Value → Option (Tr Value)
  | _, [], T => some T
  | i, v :: l, T => match Tr.set 40 T i (some v) with
    | some T' => initT (i + 1) l T'
    | none => none
structure Hd where
  nt : Nat
  T : Tr Value
  ps : List Tmp
  assign : Code
  body : Code
abbrev Hds := List (Nat × Hd)
abbrev ExecF := Hds → Nat → Code → Tr Value → Heap → Option (Ex × Tr Value × Heap)
def putArgs (nt : Nat) : List Tmp → List Value → Tr Value → Option (Tr Value)
  | [], [], T => some T
  | p :: ps, v :: vs, T => match putT nt T (some p) v with
    | some T' => putArgs nt ps vs T'
    | none => none
  | _, _, _ => none
def yieldS (ex : ExecF) : Hds → Nat → List Value → Heap → Option (Value × Heap)
  | [], _, _, _ => none
  | (k, h) :: G, id, args, H => if k = id then match putArgs h.nt h.ps args h.T with
      | none => none
      | some T1 => match ex G h.nt h.assign T1 H with
        | some (.normal, T2, H2) => match ex G h.nt h.body T2 H2 with
          | some (.normal, _, H3) => some (.bool true, H3)
          | _ => none
        | _ => none
    else yieldS ex G id args H
structure Tab where
  fn : Nat → Option Func
  sm : Nat → List Value → Heap → Option (Value × Heap)
def smK (s : Nat → List Value → Heap → Option Value) : Nat → List Value → Heap → Option (Value × Heap) := fun f args H => @Option.rec Value (fun _ => Option (Value × Heap)) none (fun v => some (v, H)) (s f args H)
def callB (P : Program) (fn : Tab) (ex : ExecF) (G : Hds) (f : FuncId) (args : List Value) (H : Heap) : Option (Value × Heap) :=
  match fn.fn f with
  | none => none
  | some F => if F.name == "runtime.NumGoroutine" then none else match F.body with
    | none => none
    | some c => if F.ntmps < args.length then none else match initT 0 args .nil with
      | none => none
      | some T => match ex G F.ntmps c T H with
        | some (.exit _, _, _) => none
        | some (_, T', H') => (resultsV P T' H' F.results.toList).map fun l => (packV l, H')
        | none => none
def fitsK (l : List Value) : Nat → Bool := @List.rec Value (fun _ => Nat → Bool) (fun _ => true) (fun _ _ ih n => @Nat.rec (fun _ => Bool) false (fun m _ => ih m) n) l
theorem fitsK_eq : ∀ (l : List Value) (n : Nat), fitsK l n = !decide (n < l.length)
  | [], n => by show true = _; simp
  | _ :: _, 0 => by show false = _; simp
  | _ :: l, n + 1 => by show fitsK l n = _; rw [fitsK_eq l n]; simp
def initK (l : List Value) : Nat → Tr Value → Option (Tr Value) := @List.rec Value (fun _ => Nat → Tr Value → Option (Tr Value)) (fun _ T => some T) (fun v _ ih i T => @Option.rec (Tr Value) (fun _ => Option (Tr Value)) none (fun T' => ih (Nat.succ i) T') (Tr.set 40 T i (some v))) l
theorem initK_eq : ∀ (l : List Value) (i : Nat) (T : Tr Value), initK l i T = initT i l T
  | [], i, T => rfl
  | v :: l, i, T => by
    show (@Option.rec (Tr Value) (fun _ => Option (Tr Value)) none (fun T' => initK l (Nat.succ i) T') (Tr.set 40 T i (some v))) = _
    unfold initT
    cases Tr.set 40 T i (some v) with
    | none => rfl
    | some T' => exact initK_eq l (i + 1) T'
def resK (P : Program) (T : Tr Value) (H : Heap) (r : List ResultVar) : Option (List Value) := @List.rec ResultVar (fun _ => Option (List Value)) (some []) (fun x _ ih => @Option.rec Value (fun _ => Option (List Value)) none (fun v => @Option.rec (List Value) (fun _ => Option (List Value)) none (fun l => some (v :: l)) ih)
  (@ResultVar.rec (fun _ => Option Value) (fun t => some (getK T t)) (fun a t => loadF P H t (getK T a)) x)) r
theorem getK_eq (T : Tr Value) (t : Nat) : getK T t = (T.get t).getD undef := by unfold getK; cases T.get t <;> rfl
theorem resK_eq (P : Program) (T : Tr Value) (H : Heap) : ∀ r, resK P T H r = resultsV P T H r
  | [] => rfl
  | .tmp t :: r => by
    show (@Option.rec (List Value) (fun _ => Option (List Value)) none (fun l => some (getK T t :: l)) (resK P T H r)) = _
    have e : resultsV P T H (.tmp t :: r) = (resultsV P T H r).map ((T.get t).getD undef :: ·) := by rw [resultsV]
    rw [resK_eq P T H r, getK_eq, e]
    cases resultsV P T H r <;> rfl
  | .cell a t :: r => by
    show (@Option.rec Value (fun _ => Option (List Value)) none (fun v => @Option.rec (List Value) (fun _ => Option (List Value)) none (fun l => some (v :: l)) (resK P T H r)) (loadF P H t (getK T a))) = _
    have e : resultsV P T H (.cell a t :: r) = match loadV P H t ((T.get a).getD undef), resultsV P T H r with
      | some v, some l => some (v :: l)
      | _, _ => none := by rw [resultsV]
    rw [resK_eq P T H r, getK_eq, loadF_eq, e]
    cases loadV P H t ((T.get a).getD undef) with
    | none => rfl
    | some v => cases resultsV P T H r <;> rfl
def packK (l : List Value) : Value := @List.rec Value (fun _ => Value) (.tuple ⟨[]⟩) (fun v r _ => @List.rec Value (fun _ => Value) v (fun u s _ => .tuple ⟨v :: u :: s⟩) r) l
theorem packK_eq (l : List Value) : packK l = packV l := by
  match l with
  | [] => rfl
  | [_] => rfl
  | _ :: _ :: _ => rfl
def endC (P : Program) (F : Func) (T : Tr Value) (H : Heap) : Option (Value × Heap) := @Option.rec (List Value) (fun _ => Option (Value × Heap)) none (fun l => some (packK l, H)) (resK P T H F.results.toList)
def leaveC (P : Program) (F : Func) (r : Option (Ex × Tr Value × Heap)) : Option (Value × Heap) := @Option.rec (Ex × Tr Value × Heap) (fun _ => Option (Value × Heap)) none (fun p => @Ex.rec (fun _ => Option (Value × Heap)) (endC P F p.2.1 p.2.2) (fun _ => none) (endC P F p.2.1 p.2.2) p.1) r
def enterC (P : Program) (ex : ExecF) (G : Hds) (args : List Value) (H : Heap) (F : Func) (c : Code) : Option (Value × Heap) :=
  @Bool.rec (fun _ => Option (Value × Heap)) none (@Option.rec (Tr Value) (fun _ => Option (Value × Heap)) none (fun T => leaveC P F (ex G F.ntmps c T H)) (initK args 0 .nil)) (fitsK args F.ntmps)
def callK (P : Program) (fn : Tab) (ex : ExecF) (G : Hds) (f : FuncId) (args : List Value) (H : Heap) : Option (Value × Heap) :=
  @Option.rec Func (fun _ => Option (Value × Heap)) none (fun F => @Bool.rec (fun _ => Option (Value × Heap)) (@Option.rec Code (fun _ => Option (Value × Heap)) none (fun c => enterC P ex G args H F c) F.body) none (F.name == "runtime.NumGoroutine")) (fn.fn f)
theorem callK_eq (P : Program) (fn : Tab) (ex : ExecF) (G : Hds) (f : FuncId) (args : List Value) (H : Heap) : callK P fn ex G f args H = callB P fn ex G f args H := by
  unfold callK callB
  cases fn.fn f with
  | none => rfl
  | some F =>
    show (@Bool.rec (fun _ => Option (Value × Heap)) (@Option.rec Code (fun _ => Option (Value × Heap)) none (fun c => enterC P ex G args H F c) F.body) none (F.name == "runtime.NumGoroutine")) = _
    simp only []
    cases F.name == "runtime.NumGoroutine" with
    | true => rfl
    | false =>
      show (@Option.rec Code (fun _ => Option (Value × Heap)) none (fun c => enterC P ex G args H F c) F.body) = _
      simp only [Bool.false_eq_true, if_false]
      cases F.body with
      | none => rfl
      | some c =>
        show enterC P ex G args H F c = _
        unfold enterC
        rw [fitsK_eq, initK_eq]
        simp only []
        by_cases h : F.ntmps < args.length
        · rw [if_pos h, decide_eq_true h]; rfl
        · rw [if_neg h, decide_eq_false h]
          show (@Option.rec (Tr Value) (fun _ => Option (Value × Heap)) none (fun T => leaveC P F (ex G F.ntmps c T H)) (initT 0 args .nil)) = _
          cases initT 0 args .nil with
          | none => rfl
          | some T =>
            show leaveC P F (ex G F.ntmps c T H) = _
            simp only []
            cases ex G F.ntmps c T H with
            | none => rfl
            | some p =>
              obtain ⟨e, T', H'⟩ := p
              have key : endC P F T' H' = (resultsV P T' H' F.results.toList).map fun l => (packV l, H') := by
                unfold endC; rw [resK_eq]
                cases resultsV P T' H' F.results.toList with
                | none => rfl
                | some l => show some (packK l, H') = _; rw [packK_eq]; rfl
              cases e with
              | normal => exact key
              | exit i => rfl
              | ret => exact key
def callS (P : Program) (fn : Tab) (ex : ExecF) (G : Hds) (f : FuncId) (args : List Value) (H : Heap) : Option (Value × Heap) :=
  @Option.rec (Value × Heap) (fun _ => Option (Value × Heap)) (callK P fn ex G f args H) (fun p => some p) (fn.sm f args H)
def caller (P : Program) (fn : Tab) (ex : ExecF) (G : Hds) : Caller := ⟨callS P fn ex G, yieldS ex G⟩
def Heap.reserve (H : Heap) : Option Heap := atNum H.next (addAt H none)
theorem Heap.reserve_eq (H : Heap) : H.reserve = (Tr.set 40 H.tr H.next none).map fun t => ⟨H.next + 1, t⟩ := by
  unfold Heap.reserve; rw [atNum_eq]; unfold addAt; cases Tr.set 40 H.tr H.next none <;> rfl
def execStep (P : Program) (fn : Tab) (ih : ExecF) : ExecF := fun G nt code T H =>
  match code with
    | .skip => some (.normal, T, H)
    | .label _ => some (.normal, T, H)
    | .ret => some (.ret, T, H)
    | .exit i => some (.exit i, T, H)
    | .seq a b => match ih G nt a T H with
      | some (.normal, T', H') => ih G nt b T' H'
      | r => r
    | .cond c a b => match opV T c with
      | some (.bool true) => ih G nt a T H
      | some (.bool false) => ih G nt b T H
      | _ => none
    | .block i b => match ih G nt b T H with
      | some (.exit j, T', H') => if j = i then some (.normal, T', H') else some (.exit j, T', H')
      | r => r
    | .loop b => match ih G nt b T H with
      | some (.normal, T', H') => ih G nt (.loop b) T' H'
      | r => r
    | .rangeFunc g ps a b => match opV T g with
      | some (.func (.func fid) ⟨first⟩ ⟨captured⟩) => match H.reserve with
        | some H1 => match callS P fn ih ((H.next, ⟨nt, T, ps.toList, a, b⟩) :: G) fid (first ++ [.float .f32 H.next] ++ captured) H1 with
          | some (_, H2) => some (.normal, T, H2)
          | none => none
        | none => none
      | _ => none
    | .region _ ops draw =>
      if draw then
        if planOkF ops (mkPlan ops) && dstOk nt ops then
          match runPlan P (caller P fn ih G) nt ops (mkPlan ops) ⟨T, H, [], 0⟩ with
          | some s => some (.normal, s.T, s.H)
          | none => none
        else none
      else match runSeq P (caller P fn ih G) nt ops ops.toList T H with
        | some (T', H') => some (.normal, T', H')
        | none => none
    | _ => none
abbrev ER := Option (Ex × Tr Value × Heap)
abbrev StepR := Program → Tab → ExecF → Hds → Nat → Tr Value → Heap → ER
def doneK (e : Ex) : StepR := fun _ _ _ _ _ T H => some (e, T, H)
def thenE (r : ER) (k : Tr Value → Heap → ER) : ER := @Option.rec (Ex × Tr Value × Heap) (fun _ => ER) none (fun p => @Prod.rec Ex (Tr Value × Heap) (fun _ => ER) (fun e q => @Ex.rec (fun _ => ER) (@Prod.rec (Tr Value) Heap (fun _ => ER) k q) (fun i => some (.exit i, q)) (some (.ret, q)) e) p) r
def cSeq (a b : Code) : StepR := fun _ _ ih G nt T H => thenE (ih G nt a T H) (ih G nt b)
def cLoop (b : Code) : StepR := fun _ _ ih G nt T H => thenE (ih G nt b T H) (ih G nt (.loop b))
def asBoolK : Value → Option Bool :=
  @Value.rec (fun _ => Option Bool) (fun _ => Unit) (fun _ => Unit) (fun b => some b) (fun _ _ => none) (fun _ _ => none) (fun _ _ _ => none) (fun _ => none) (fun _ => none) (fun _ _ _ => none) (fun _ => none) (fun _ => none) (fun _ _ _ _ _ => none) none (fun _ _ _ => none) none (fun _ _ => none) (fun _ _ => none) (fun _ _ => ()) () (fun _ _ _ _ => ())
def boolK (v : Value) (x y : ER) : ER := @Option.rec Bool (fun _ => ER) none (fun t => @Bool.rec (fun _ => ER) y x t) (asBoolK v)
def cCond (c : Operand) (a b : Code) : StepR := fun _ _ ih G nt T H => @Option.rec Value (fun _ => ER) none (fun v => boolK v (ih G nt a T H) (ih G nt b T H)) (opvK c T)
def leaveK (i : Nat) (r : ER) : ER := @Option.rec (Ex × Tr Value × Heap) (fun _ => ER) none (fun p => @Prod.rec Ex (Tr Value × Heap) (fun _ => ER) (fun e q => @Ex.rec (fun _ => ER) (some (.normal, q)) (fun j => @Bool.rec (fun _ => ER) (some (.exit j, q)) (some (.normal, q)) (Nat.beq j i)) (some (.ret, q)) e) p) r
def cBlock (i : Nat) (b : Code) : StepR := fun _ _ ih G nt T H => leaveK i (ih G nt b T H)
def endSeq (r : Option (Tr Value × Heap)) : ER := @Option.rec (Tr Value × Heap) (fun _ => ER) none (fun p => some (.normal, p)) r
def endPlan (r : Option PS) : ER := @Option.rec PS (fun _ => ER) none (fun s => some (.normal, s.T, s.H)) r
def drawK (ops : Array Oper) : StepR := fun P fn ih G nt T H => @Bool.rec (fun _ => ER) none (endPlan (runPlanK P (caller P fn ih G) nt ops (mkPlan ops) ⟨T, H, [], 0⟩)) (planOkF ops (mkPlan ops) && dstOk nt ops)
structure RBox where
  f : Program → Caller → Tr Value → Heap → SR
def setC (d : Nat) (v : Value) (T : Tr Value) (k : Tr Value → Heap → SR) (H : Heap) : SR := @Option.rec (Tr Value) (fun _ => SR) none (fun T' => k T' H) (Tr.set 40 T d (some v))
def slowB (x : Operand) (nt : Nat) (dst : Option Tmp) (nx : RBox) : RBox := RBox.mk fun P C T H => moveC x P C nt dst (nx.f P C) T H
def moveB (x : Operand) (nt : Nat) (dst : Option Tmp) (nx : RBox) : RBox :=
  @Option.rec Tmp (fun _ => RBox) (slowB x nt dst nx) (fun d => @Bool.rec (fun _ => RBox) (slowB x nt dst nx)
    (@Operand.rec (fun _ => RBox) (fun t => RBox.mk fun P C T H => getC T t fun v => setC d v T (nx.f P C) H) (fun c => @Bool.rec (fun _ => RBox) (slowB x nt dst nx) (RBox.mk fun P C T H => setC d c T (nx.f P C) H) (plainV c)) (fun _ => slowB x nt dst nx) (fun _ => slowB x nt dst nx) x) (Nat.blt d nt)) dst
def opB : Op → Nat → Option Tmp → RBox → RBox :=
  @Op.rec (fun _ => Nat → Option Tmp → RBox → RBox)
    moveB
    moveB
    (fun x0 x1 x2 nt dst nx => RBox.mk fun P C T H => (genC (kPick x0 x1 x2)) P C nt dst (nx.f P C) T H)
    (fun x0 nt dst nx => RBox.mk fun P C T H => (genC (kAlloc x0)) P C nt dst (nx.f P C) T H)
    (fun x0 x1 nt dst nx => RBox.mk fun P C T H => (genC (kBox x0 x1)) P C nt dst (nx.f P C) T H)
    (fun x0 x1 nt dst nx => RBox.mk fun P C T H => (genC (kBuild x0 x1)) P C nt dst (nx.f P C) T H)
    (fun x0 x1 x2 nt dst nx => RBox.mk fun P C T H => (genC (kBuildSlice x0 x1 x2)) P C nt dst (nx.f P C) T H)
    (fun x0 x1 x2 x3 nt dst nx => RBox.mk fun P C T H => (genC (opD (.insert x0 x1 x2 x3))) P C nt dst (nx.f P C) T H)
    (fun x0 x1 nt dst nx => RBox.mk fun P C T H => (loadC x0 x1) P C nt dst (nx.f P C) T H)
    (fun x0 x1 x2 nt dst nx => RBox.mk fun P C T H => (storeC x0 x1 x2) P C nt dst (nx.f P C) T H)
    (fun x0 nt dst nx => RBox.mk fun P C T H => (genC (opD (.ready x0))) P C nt dst (nx.f P C) T H)
    (fun x0 nt dst nx => RBox.mk fun P C T H => (genC (opD (.waits x0))) P C nt dst (nx.f P C) T H)
    (fun x0 nt dst nx => RBox.mk fun P C T H => (genC (kNil x0)) P C nt dst (nx.f P C) T H)
    (fun x0 x1 x2 x3 x4 nt dst nx => RBox.mk fun P C T H => (binC x0 x1 x2 x3 x4) P C nt dst (nx.f P C) T H)
    (fun x0 x1 x2 nt dst nx => RBox.mk fun P C T H => (genC (kUn x0 x1 x2)) P C nt dst (nx.f P C) T H)
    (fun x0 x1 x2 nt dst nx => RBox.mk fun P C T H => (genC (kConv x0 x1 x2)) P C nt dst (nx.f P C) T H)
    (fun x0 x1 nt dst nx => RBox.mk fun P C T H => (genC (opD (.sliceToArrayPointer x0 x1))) P C nt dst (nx.f P C) T H)
    (fun x0 x1 nt dst nx => RBox.mk fun P C T H => (genC (kIface x0 x1)) P C nt dst (nx.f P C) T H)
    (fun x0 x1 x2 nt dst nx => RBox.mk fun P C T H => (genC (opD (.makeFunc x0 x1 x2))) P C nt dst (nx.f P C) T H)
    (fun x0 x1 nt dst nx => RBox.mk fun P C T H => (genC (opD (.makeMap x0 x1))) P C nt dst (nx.f P C) T H)
    (fun x0 x1 nt dst nx => RBox.mk fun P C T H => (genC (opD (.makeChan x0 x1))) P C nt dst (nx.f P C) T H)
    (fun x0 x1 x2 nt dst nx => RBox.mk fun P C T H => (genC (kMkSlice x0 x1 x2)) P C nt dst (nx.f P C) T H)
    (fun x0 x1 x2 x3 x4 nt dst nx => RBox.mk fun P C T H => (genC (kSlice x0 x1 x2 x3 x4)) P C nt dst (nx.f P C) T H)
    (fun x0 x1 x2 nt dst nx => RBox.mk fun P C T H => (fieldC x0 x1 x2) P C nt dst (nx.f P C) T H)
    (fun x0 x1 x2 nt dst nx => RBox.mk fun P C T H => (genC (kField x0 x1 x2)) P C nt dst (nx.f P C) T H)
    (fun x0 x1 x2 nt dst nx => RBox.mk fun P C T H => (genC (kIndexAddr x0 x1 x2)) P C nt dst (nx.f P C) T H)
    (fun x0 x1 x2 nt dst nx => RBox.mk fun P C T H => (genC (kIndex x0 x1 x2)) P C nt dst (nx.f P C) T H)
    (fun x0 x1 x2 x3 nt dst nx => RBox.mk fun P C T H => (genC (opD (.lookup x0 x1 x2 x3))) P C nt dst (nx.f P C) T H)
    (fun x0 x1 x2 x3 nt dst nx => RBox.mk fun P C T H => (genC (opD (.mapUpdate x0 x1 x2 x3))) P C nt dst (nx.f P C) T H)
    (fun x0 x1 x2 nt dst nx => RBox.mk fun P C T H => (genC (opD (.mapEntry x0 x1 x2))) P C nt dst (nx.f P C) T H)
    (fun x0 x1 x2 x3 nt dst nx => RBox.mk fun P C T H => (genC (opD (.entryStore x0 x1 x2 x3))) P C nt dst (nx.f P C) T H)
    (fun x0 x1 nt dst nx => RBox.mk fun P C T H => (genC (opD (.range x0 x1))) P C nt dst (nx.f P C) T H)
    (fun x0 x1 nt dst nx => RBox.mk fun P C T H => (genC (opD (.next x0 x1))) P C nt dst (nx.f P C) T H)
    (fun x0 nt dst nx => RBox.mk fun P C T H => (genC (opD (.entry x0))) P C nt dst (nx.f P C) T H)
    (fun x0 x1 x2 x3 nt dst nx => RBox.mk fun P C T H => (genC (opD (.typeAssert x0 x1 x2 x3))) P C nt dst (nx.f P C) T H)
    (fun x0 x1 nt dst nx => RBox.mk fun P C T H => (genC (kExtract x0 x1)) P C nt dst (nx.f P C) T H)
    (fun x0 nt dst nx => RBox.mk fun P C T H => (genC (kCall x0)) P C nt dst (nx.f P C) T H)
    (fun x0 nt dst nx => RBox.mk fun P C T H => (genC (opD (.go x0))) P C nt dst (nx.f P C) T H)
    (fun x0 nt dst nx => RBox.mk fun P C T H => (genC (opD (.defer x0))) P C nt dst (nx.f P C) T H)
    (fun x0 nt dst nx => RBox.mk fun P C T H => (genC (opD (.panic x0))) P C nt dst (nx.f P C) T H)
    (fun x0 x1 nt dst nx => RBox.mk fun P C T H => (genC (opD (.send x0 x1))) P C nt dst (nx.f P C) T H)
    (fun x0 x1 x2 nt dst nx => RBox.mk fun P C T H => (genC (opD (.recv x0 x1 x2))) P C nt dst (nx.f P C) T H)
    (fun x0 x1 nt dst nx => RBox.mk fun P C T H => (genC (opD (.select x0 x1))) P C nt dst (nx.f P C) T H)
def guardB (nt : Nat) (ops : Array Oper) (o : Oper) (nx : RBox) : RBox := @Option.rec (Nat × Bool) (fun _ => RBox) (opB o.op nt o.dst nx) (fun g => RBox.mk fun P C T H => seqG P C nt ops o (nx.f P C) T H g) o.guard
def seqB (nt : Nat) (ops : Array Oper) (l : List Oper) : RBox := @List.rec Oper (fun _ => RBox) (RBox.mk fun _ _ T H => some (T, H)) (fun o _ nx => guardB nt ops o nx) l
theorem moveB_eq (x : Operand) (nt : Nat) (dst : Option Tmp) (nx : RBox) (P : Program) (C : Caller) (T : Tr Value) (H : Heap) : (moveB x nt dst nx).f P C T H = moveC x P C nt dst (nx.f P C) T H := by
  cases dst with
  | none => rfl
  | some d =>
    show (@Bool.rec (fun _ => RBox) (slowB x nt (some d) nx)
      (@Operand.rec (fun _ => RBox) (fun t => RBox.mk fun P C T H => getC T t fun v => setC d v T (nx.f P C) H) (fun c => @Bool.rec (fun _ => RBox) (slowB x nt (some d) nx) (RBox.mk fun P C T H => setC d c T (nx.f P C) H) (plainV c)) (fun _ => slowB x nt (some d) nx) (fun _ => slowB x nt (some d) nx) x) (Nat.blt d nt)).f P C T H = _
    have hset : Nat.blt d nt = true → ∀ v, setC d v T (nx.f P C) H = putsT nt (some d) T (nx.f P C) H v := by
      intro hb v
      show _ = (@Bool.rec (fun _ => SR) none (@Option.rec (Tr Value) (fun _ => SR) none (fun T' => nx.f P C T' H) (Tr.set 40 T d (some v))) (Nat.blt d nt))
      rw [hb]; rfl
    cases hb : Nat.blt d nt with
    | false => rfl
    | true =>
      cases x with
      | tmp t => show getC T t (fun v => setC d v T (nx.f P C) H) = getC T t (putsT nt (some d) T (nx.f P C) H); rw [funext (hset hb)]
      | const c =>
        show (@Bool.rec (fun _ => RBox) (slowB (.const c) nt (some d) nx) (RBox.mk fun P C T H => setC d c T (nx.f P C) H) (plainV c)).f P C T H = _
        cases hp : plainV c with
        | false => rfl
        | true =>
          show setC d c T (nx.f P C) H = (@Bool.rec (fun _ => SR) none (putsT nt (some d) T (nx.f P C) H c) (plainV c))
          rw [hp, hset hb]
      | global g => rfl
      | func f => rfl
theorem opB_eq (op : Op) (nt : Nat) (dst : Option Tmp) (nx : RBox) (P : Program) (C : Caller) (T : Tr Value) (H : Heap) : (opB op nt dst nx).f P C T H = runC op P C nt dst (nx.f P C) T H := by
  cases op
  case move x => exact moveB_eq x nt dst nx P C T H
  case assign x => exact moveB_eq x nt dst nx P C T H
  all_goals rfl
theorem seqB_eq (P : Program) (C : Caller) (nt : Nat) (ops : Array Oper) : ∀ l, (seqB nt ops l).f P C = runSeq P C nt ops l
  | [] => rfl
  | o :: l => by
    funext T H
    show (guardB nt ops o (seqB nt ops l)).f P C T H = seqStep P C nt ops o (runSeq P C nt ops l) T H
    rw [← seqB_eq P C nt ops l]
    unfold guardB seqStep
    cases o.guard with
    | none => exact opB_eq o.op nt o.dst (seqB nt ops l) P C T H
    | some g => rfl
def lineK (ops : Array Oper) : StepR := fun P fn ih G nt T H => endSeq ((seqB nt ops ops.toList).f P (caller P fn ih G) T H)
def cRegion (_ : Nat) (ops : Array Oper) (draw : Bool) : StepR := @Bool.rec (fun _ => StepR) (lineK ops) (drawK ops) draw
def cRange (g : Operand) (ps : Array Tmp) (a b : Code) : StepR := fun P fn ih G nt T H => execStep P fn ih G nt (.rangeFunc g ps a b) T H
def failK : StepR := fun _ _ _ _ _ _ _ => none
def execD : Code → StepR :=
  @Code.rec (fun _ => StepR) (doneK .normal) cRegion (fun a b _ _ => cSeq a b) (fun c a b _ _ => cCond c a b) (fun i b _ => cBlock i b) (fun b _ => cLoop b) (fun g ps a b _ _ => cRange g ps a b) (fun i => doneK (.exit i)) (fun _ _ => failK) (fun _ => doneK .normal) (fun _ => failK) (doneK .ret) (fun _ => failK)
structure CBox where
  f : StepR
def codeB : Code → CBox :=
  @Code.rec (fun _ => CBox) (CBox.mk (doneK .normal)) (fun _ ops d => @Bool.rec (fun _ => CBox) (CBox.mk (lineK ops)) (CBox.mk (drawK ops)) d) (fun a b _ _ => CBox.mk (cSeq a b)) (fun c a b _ _ => CBox.mk (cCond c a b)) (fun i b _ => CBox.mk (cBlock i b)) (fun b _ => CBox.mk (cLoop b)) (fun g ps a b _ _ => CBox.mk (cRange g ps a b)) (fun i => CBox.mk (doneK (.exit i))) (fun _ _ => CBox.mk failK) (fun _ => CBox.mk (doneK .normal)) (fun _ => CBox.mk failK) (CBox.mk (doneK .ret)) (fun _ => CBox.mk failK)
def execK (P : Program) (fn : Tab) (ih : ExecF) : ExecF := fun G nt code T H => (codeB code).f P fn ih G nt T H
theorem execK_eq (P : Program) (fn : Tab) (ih : ExecF) : execK P fn ih = execStep P fn ih := by
  funext G nt code T H
  cases code with
  | seq a b =>
    show thenE (ih G nt a T H) (ih G nt b) = _
    unfold execStep
    simp only []
    cases ih G nt a T H with
    | none => rfl
    | some p => obtain ⟨e, T', H'⟩ := p; cases e <;> rfl
  | loop b =>
    show thenE (ih G nt b T H) (ih G nt (.loop b)) = _
    unfold execStep
    simp only []
    cases ih G nt b T H with
    | none => rfl
    | some p => obtain ⟨e, T', H'⟩ := p; cases e <;> rfl
  | cond c a b =>
    show (@Option.rec Value (fun _ => ER) none (fun v => boolK v (ih G nt a T H) (ih G nt b T H)) (opvK c T)) = _
    unfold execStep
    rw [opvK_eq]
    simp only []
    cases opV T c with
    | none => rfl
    | some v =>
      cases v <;> try rfl
      next t => cases t <;> rfl
  | block i b =>
    show leaveK i (ih G nt b T H) = _
    unfold execStep
    simp only []
    cases ih G nt b T H with
    | none => rfl
    | some p =>
      obtain ⟨e, T', H'⟩ := p
      cases e with
      | normal => rfl
      | ret => rfl
      | exit j =>
        show (@Bool.rec (fun _ => ER) (some (.exit j, T', H')) (some (.normal, T', H')) (Nat.beq j i)) = if j = i then some (.normal, T', H') else some (.exit j, T', H')
        cases h : Nat.beq j i with
        | true => rw [if_pos (Nat.eq_of_beq_eq_true h)]
        | false => rw [if_neg (Nat.ne_of_beq_eq_false h)]
  | region id ops draw =>
    cases draw with
    | false =>
      show endSeq ((seqB nt ops ops.toList).f P (caller P fn ih G) T H) = _
      rw [seqB_eq]
      unfold execStep
      simp only [Bool.false_eq_true, if_false]
      cases runSeq P (caller P fn ih G) nt ops ops.toList T H <;> rfl
    | true =>
      show (@Bool.rec (fun _ => ER) none (endPlan (runPlanK P (caller P fn ih G) nt ops (mkPlan ops) ⟨T, H, [], 0⟩)) (planOkF ops (mkPlan ops) && dstOk nt ops)) = _
      unfold execStep
      simp only [if_true]
      cases h : (planOkF ops (mkPlan ops) && dstOk nt ops) with
      | false => simp
      | true =>
        simp only [if_true]
        rw [runPlanK_eq]
        cases runPlan P (caller P fn ih G) nt ops (mkPlan ops) ⟨T, H, [], 0⟩ <;> rfl
  | _ => rfl
structure XBox where
  f : ExecF
def execB (P : Program) (fn : Tab) (f : Nat) : XBox := @Nat.rec (fun _ => XBox) (XBox.mk fun _ _ _ _ _ => none) (fun _ ih => XBox.mk (execK P fn ih.f)) f
def exec (P : Program) (fn : Tab) (f : Nat) : ExecF := (execB P fn f).f
theorem exec_zero (P : Program) (fn : Tab) : exec P fn 0 = fun _ _ _ _ _ => none := rfl
theorem exec_succ (P : Program) (fn : Tab) (f : Nat) : exec P fn (f + 1) = execStep P fn (exec P fn f) := execK_eq P fn (exec P fn f)
section
variable {P : Program} {fn : Tab} {D : List Deferred}
theorem initT_get : ∀ (l : List Value) (i : Nat) (T T' : Tr Value), initT i l T = some T' → ∀ t, T'.get t = if i ≤ t ∧ t < i + l.length then l[t - i]? else T.get t
  | [], i, T, T', h, t => by cases h; rw [if_neg (by simp)]
  | v :: l, i, T, T', h, t => by
    unfold initT at h
    split at h
    · next T1 h1 =>
      rw [initT_get l (i + 1) T1 T' h t, Tr.get_set _ _ _ _ _ h1]
      simp only [List.length_cons]
      by_cases ht : t = i
      · subst ht; rw [if_neg (by omega), if_pos rfl, if_pos (by omega)]; simp
      · by_cases h2 : i + 1 ≤ t ∧ t < i + 1 + l.length
        · rw [if_pos h2, if_pos (by omega)]
          obtain ⟨j, rfl⟩ : ∃ j, t = i + 1 + j := ⟨t - (i + 1), by omega⟩
          rw [show i + 1 + j - (i + 1) = j by omega, show i + 1 + j - i = j + 1 by omega, List.getElem?_cons_succ]
        · rw [if_neg h2, if_neg ht, if_neg (by omega)]
    · cases h
theorem resultsV_ok {φ : Phi} {nt : Nat} {T : Tr Value} {H : Heap} {a : Act} {w : World} (hR : Rel φ H w) (hF : FRel D φ nt T a) : ∀ (r : List ResultVar) (l : List Value), resultsV P T H r = some l →
    ∃ L, concL φ l = some L ∧ (r.mapM fun x => (match x with | .tmp t => pure (a.tmps.getD t undef) | .cell c t => do loadVar t (← asAddr (a.tmps.getD c undef)) : Sem Value)).run P w = .ok L w
  | [], l, h => by cases h; exact ⟨[], rfl, rfl⟩
  | .tmp t :: r, l, h => by
    unfold resultsV at h
    cases hr : resultsV P T H r with
    | none => rw [hr] at h; cases h
    | some l' =>
      rw [hr] at h; cases h
      obtain ⟨L, g1, g2⟩ := resultsV_ok hR hF r l' hr
      refine ⟨a.tmps.getD t undef :: L, by simp only [concL, hF.vals t, g1], ?_⟩
      rw [List.mapM_cons]
      rw [bind_ok (run_pure P _ w), bind_ok g2]; rfl
  | .cell c t :: r, l, h => by
    unfold resultsV at h
    split at h
    · next v l' hv hr =>
      cases h
      obtain ⟨L, g1, g2⟩ := resultsV_ok hR hF r l' hr
      obtain ⟨V, g3, g4⟩ := loadV_ok (P := P) hR hv (hF.vals c)
      refine ⟨V :: L, by simp only [concL, g3, g1], ?_⟩
      rw [List.mapM_cons]
      have e : (do loadVar t (← asAddr (a.tmps.getD c undef)) : Sem Value).run P w = .ok V w := by
        have hp : ∃ A, a.tmps.getD c undef = .pointer (some A) := by
          unfold loadV at hv
          split at hv
          · next aa hT => have := hF.vals c; rw [hT] at this; obtain ⟨_, A, _, e⟩ := conc_ptr this; exact ⟨A, e⟩
          · cases hv
        obtain ⟨A, hA⟩ := hp
        rw [hA] at g4 ⊢
        rw [bind_ok (show (asAddr (.pointer (some A))).run P w = .ok A w from rfl)]
        unfold Instr.loadAt at g4
        rw [bind_ok (show (Instr.sureAddr (.pointer (some A))).run P w = .ok A w from rfl)] at g4
        exact g4
      rw [bind_ok e, bind_ok g2]; rfl
    · cases h
theorem results_ok {φ : Phi} {nt : Nat} {T : Tr Value} {H : Heap} {a : Act} {w : World} (hR : Rel φ H w) (hF : FRel D φ nt T a) {F : Func} {l : List Value} (h : resultsV P T H F.results.toList = some l) :
    ∃ V, conc φ (packV l) = some V ∧ (results F a.tmps).run P w = .ok V w := by
  obtain ⟨L, g1, g2⟩ := resultsV_ok hR hF _ _ h
  have hm : (F.results.mapM fun x => (match x with | .tmp t => pure (a.tmps.getD t undef) | .cell c t => do loadVar t (← asAddr (a.tmps.getD c undef)) : Sem Value)).run P w = .ok L.toArray w := by
    rw [Array.mapM_eq_mapM_toList]
    exact bind_ok (f := fun x : List Value => (pure x.toArray : Sem _)) g2
  have hlen := concL_len g1
  have e : (results F a.tmps).run P w = (pure (if h : L.toArray.size = 1 then L.toArray[0] else .tuple L.toArray) : Sem Value).run P w := by
    unfold results
    exact bind_ok hm
  rw [e]
  match l, L, hlen, g1 with
  | [], [], _, _ => exact ⟨_, rfl, rfl⟩
  | [v], [x], _, g1 =>
    refine ⟨x, ?_, rfl⟩
    simp only [concL] at g1
    cases hv : conc φ v with
    | none => rw [hv] at g1; cases g1
    | some y => rw [hv] at g1; simp only [Option.some.injEq, List.cons.injEq, and_true] at g1; rw [← g1]; exact hv
  | v :: v2 :: l, x :: x2 :: L, _, g1 =>
    refine ⟨.tuple (x :: x2 :: L).toArray, ?_, ?_⟩
    · show conc φ (.tuple ⟨v :: v2 :: l⟩) = _
      simp only [conc, g1]; rfl
    · rw [dif_neg (by simp)]; rfl
theorem Rel.other {φ : Phi} {H : Heap} {w : World} {r : Nat} {o : Obj} (h : Rel φ H w) (hr : ¬ Own φ H r) : Rel φ H (w.putObj r o) := by
  refine ⟨fun id ob B h1 h2 => ?_, fun id B h1 => ?_, h.alias⟩
  · obtain ⟨c, h3, h4⟩ := h.objs id ob B h1 h2
    refine ⟨c, ?_, h4⟩
    rw [World.putObj_heap_other (fun e => hr ⟨id, ob, B, h1, h2, e⟩)]
    exact h3
  · rw [World.putObj_size]; exact h.dom id B h1
theorem Rel.alloc {φ : Phi} {H : Heap} {w : World} (h : Rel φ H w) (o : Obj) : Rel φ H (w.alloc o) := by
  refine ⟨fun id ob B h1 h2 => ?_, fun id B h1 => ?_, h.alias⟩
  · obtain ⟨c, h3, h4⟩ := h.objs id ob B h1 h2
    refine ⟨c, ?_, h4⟩
    have := (h.dom id B h2).2
    simp only [World.alloc, Array.getElem?_push]
    rw [if_neg (by omega)]; exact h3
  · have := h.dom id B h1
    exact ⟨this.1, by rw [World.size_alloc]; omega⟩
theorem Rel.unowned {φ : Phi} {H : Heap} {w : World} (h : Rel φ H w) {r : Nat} (hr : w.heap.size ≤ r) : ¬ Own φ H r := by
  rintro ⟨id, o, B, h1, h2, rfl⟩
  have := (h.dom id B h2).2; omega
theorem Step.other {φ φ' : Phi} {H H' : Heap} {w w' : World} (h : Step φ H w φ' H' w') {r : Nat} {o : Obj} (hr : w.heap.size ≤ r) : Step φ H w φ' H' (w'.putObj r o) :=
  ⟨h.le, h.new, by rw [World.putObj_size]; exact h.size, fun b hb hn => by rw [World.putObj_heap_other (by omega)]; exact h.keep b hb hn, h.own, h.next, h.tape, h.os, h.output⟩
theorem Step.drew {φ φ' : Phi} {H H' : Heap} {w w' : World} {n : Nat} (h : Step φ H { w with drawn := n } φ' H' w') : Step φ H w φ' H' w' := ⟨h.le, h.new, h.size, h.keep, h.own, h.next, h.tape, h.os, h.output⟩
theorem Step.toDrew {φ : Phi} {H : Heap} {w : World} {n : Nat} : Step φ H w φ H { w with drawn := n } := ⟨Phi.le_refl φ, fun _ _ h => .inl h, Nat.le_refl _, fun _ _ _ => rfl, fun _ _ h => h, Nat.le_refl _, rfl, rfl, rfl⟩
theorem Step.alloc {φ : Phi} {H : Heap} {w : World} (o : Obj) : Step φ H w φ H (w.alloc o) :=
  ⟨Phi.le_refl φ, fun _ _ h => .inl h, by rw [World.size_alloc]; omega, fun b hb _ => by simp only [World.alloc, Array.getElem?_push]; rw [if_neg (by omega)], fun _ _ h => h, Nat.le_refl _, rfl, rfl, rfl⟩
theorem Heap.reserve_get {H H' : Heap} (h : H.reserve = some H') (m : Nat) : H'.get m = if m = H.next then none else H.get m := by
  rw [Heap.reserve_eq] at h; rw [Heap.get_eq, Heap.get_eq]
  cases hs : Tr.set 40 H.tr H.next none with
  | none => rw [hs] at h; cases h
  | some t => rw [hs] at h; cases h; exact Tr.get_set _ _ _ _ _ hs m
theorem Heap.reserve_next {H H' : Heap} (h : H.reserve = some H') : H'.next = H.next + 1 := by
  rw [Heap.reserve_eq] at h
  cases hs : Tr.set 40 H.tr H.next none with
  | none => rw [hs] at h; cases h
  | some t => rw [hs] at h; cases h; rfl
theorem Rel.reserve {φ : Phi} {H H1 : Heap} {w : World} {l : Nat} (h : Rel φ H w) (hr : H.reserve = some H1) (hl : l < w.heap.size) :
    Rel (φ.put H.next ⟨l, 0, 0⟩) H1 w ∧ Step φ H w (φ.put H.next ⟨l, 0, 0⟩) H1 w ∧ (φ.put H.next ⟨l, 0, 0⟩).at_ H.next = some ⟨l, 0, 0⟩ ∧ ∀ b, Own (φ.put H.next ⟨l, 0, 0⟩) H1 b → Own φ H b := by
  have hn : φ.at_ H.next = none := by
    cases hb : φ.at_ H.next with
    | none => rfl
    | some b => exact absurd (h.dom _ _ hb).1 (Nat.lt_irrefl _)
  have hle := Phi.le_put (B := ⟨l, 0, 0⟩) hn
  have hget : ∀ id o, H1.get id = some o → id ≠ H.next ∧ H.get id = some o := by
    intro id o ho
    rw [Heap.reserve_get hr] at ho
    split at ho
    · cases ho
    · next hne => exact ⟨hne, ho⟩
  have hown : ∀ b, Own (φ.put H.next ⟨l, 0, 0⟩) H1 b → Own φ H b := by
    rintro b ⟨id, o, B, h1, h2, h3⟩
    obtain ⟨hne, h1⟩ := hget id o h1
    rw [Phi.put_ne hne] at h2
    exact ⟨id, o, B, h1, h2, h3⟩
  refine ⟨⟨fun id o B h1 h2 => ?_, fun id B h1 => ?_, fun i j o p B C hi hj bi bj he => ?_⟩, ⟨hle, fun id B h1 => ?_, Nat.le_refl _, fun _ _ _ => rfl, fun b _ hb => hown b hb, by rw [Heap.reserve_next hr]; omega, rfl, rfl, rfl⟩, Phi.put_at _ _ _, hown⟩
  · obtain ⟨hne, h1⟩ := hget id o h1
    rw [Phi.put_ne hne] at h2
    obtain ⟨c, h3, h4⟩ := h.objs id o B h1 h2
    exact ⟨c, h3, objIs_le hle h4⟩
  · rw [Heap.reserve_next hr]
    by_cases hi : id = H.next
    · subst hi; rw [Phi.put_at] at h1; cases h1; exact ⟨by omega, hl⟩
    · rw [Phi.put_ne hi] at h1
      have := h.dom id B h1
      exact ⟨by omega, this.2⟩
  · obtain ⟨ni, hi⟩ := hget i o hi
    obtain ⟨nj, hj⟩ := hget j p hj
    rw [Phi.put_ne ni] at bi; rw [Phi.put_ne nj] at bj
    exact h.alias i j o p B C hi hj bi bj he
  · by_cases hi : id = H.next
    · subst hi; exact .inr (Nat.le_refl _)
    · rw [Phi.put_ne hi] at h1; exact .inl h1
end
end Ev
end Go.Proofs.YtifoekadjnlhcaaGreatDoor
