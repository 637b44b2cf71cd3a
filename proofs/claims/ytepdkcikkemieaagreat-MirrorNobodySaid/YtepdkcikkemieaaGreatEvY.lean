/- THE ENGINE, 25: a region that draws its order, by a plan: in whatever order. -/
import Derived.Test.YtepdkcikkemieaaGreatEvX
noncomputable section
namespace Go.Proofs.YtepdkcikkemieaaGreat
open Go.RowKit
set_option linter.unusedVariables false
set_option linter.unusedSimpArgs false
namespace Ev
variable {D : List Deferred} {rd : Option Nat}

section
variable {P : Program} {callF : Caller} {ops : Array Oper} {T0 : Tr Value} {H0 : Heap} {nt : Nat}
open Classical in
noncomputable def restr (op : Op) (ρ : Operand → Option Value) (x : Operand) : Option Value := if x ∈ op.operands then ρ x else none
theorem restr_eq (op : Op) (ρ : Operand → Option Value) : ∀ x ∈ op.operands, ρ x = restr op ρ x := fun x hx => by unfold restr; rw [if_pos hx]
theorem restr_ok {o : Oper} {T : Tr Value} {φ : Phi} {a : Act} (h : ∀ t, t ∈ o.looksAt ops → conc φ ((T.get t).getD undef) = some (a.tmps.getD t undef)) : ∀ x u, restr o.op (opV T) x = some u → conc φ u = some (a.eval x) := by
  intro x u hu
  unfold restr at hu
  split at hu
  · next hx =>
    cases x with
    | tmp t => cases hu; exact h t (tmp_looks hx)
    | const v =>
      simp only [opV] at hu
      split at hu
      · next hp => cases hu; exact conc_plainV hp
      · cases hu
    | global g => cases hu
    | func f => cases hu; rfl
  · cases hu
/-- All that is known of the region and its run. -/
structure Run (P : Program) (callF : Caller) (ops : Array Oper) (T0 : Tr Value) (H0 : Heap) (nt : Nat) (s : PS) (M : List Nat) (A B : Nat → Heap) : Prop where
  hM : M = waits [] ops.toList
  fin : Final P callF ops T0 H0 M s
  chk : ChkAt P ops M s.hist s.H s.l
  AB : ∀ m, m ≤ s.l → Facts H0 s.hist s.H s.l m (A m) (B m)
  one : OneDst ops
  haz : ∀ (i j : Nat) (oi oj : Oper) (d : Tmp), ops[i]? = some oi → ops[j]? = some oj → oi.dst = some d → d ∈ oj.looksAt ops → i = j ∨ dep' M j i = true ∨ dep' M i j = true
  all : ∀ i, i < ops.size → ∃ e ∈ s.hist, e.i = i
  dst : ∀ e ∈ s.hist, ∀ o, ops[e.i]? = some o → ∀ d, o.dst = some d → d < nt
theorem Run.uniq {s : PS} {M : List Nat} {A B : Nat → Heap} (R : Run P callF ops T0 H0 nt s M A B) {e f : Ent} (he : e ∈ s.hist) (hf : f ∈ s.hist) (h : f.i = e.i) : f = e := idx_uniq R.fin.ok f hf e he h
theorem inv_step {s : PS} {M : List Nat} {A B : Nat → Heap} (R : Run P callF ops T0 H0 nt s M A B) {φ0 : Phi} {w0 : World} (hc : CallOk P callF φ0 H0 w0) {Q : Exit → Act → World → Prop} {listed : Array Bool} {m : Nat} {φ : Phi} {a : Act} {w : World}
    (I : Inv D s A ops T0 H0 nt φ0 w0 listed m φ a w) {i : Nat} (hi : i ∈ Region.ready .any ops listed) {K : Act → World → Prop}
    (hK : ∀ m' φ' a' w', Inv D s A ops T0 H0 nt φ0 w0 (listed.setIfInBounds i true) m' φ' a' w' → K a' w') : wpOpIn (wideR rd) 0 P ops Q i K a w := by
  obtain ⟨hun, o, ho, hpre⟩ := mem_ready.1 hi
  have hun' := getD_both hun
  have hisz : i < ops.size := (Array.getElem?_eq_some_iff.1 ho).1
  obtain ⟨e, he, rfl⟩ := R.all i hisz
  have hlook := looks_ok R.hM R.fin R.one R.haz R.all I.shut I.w1 I.w2 he ho hun' hpre
  have hρ := restr_ok (a := a) hlook
  have hlsz : e.i < listed.size := by rw [I.shut.size]; exact hisz
  have hshut : Shut' .any ops (listed.setIfInBounds e.i true) := Shut'.set I.shut hi
  have hbind : ops[e.i]?.bind (·.dst) = o.dst := by rw [ho]; rfl
  have hok := R.fin.ok
  unfold PS.Ok at hok
  -- closed behind what is listed
  have hclL : ∀ j i, dep' M j i = true → (∀ o, ops[j]? = some o → ∀ x ∈ o.after, Region.binds .any x = true → listed.getD x.on false = true) → listed.getD i false = true := by
    intro j i hd hp
    rw [R.hM] at hd
    exact dep'_in (L := fun k => listed.getD k false = true) (fun k o hk hko x hx hb => I.shut.closed k o hko hk x hx hb) j i hd hp
  have hpre' : ∀ o', ops[e.i]? = some o' → ∀ x ∈ o'.after, Region.binds .any x = true → listed.getD x.on false = true := fun o' ho' x hx hb => by
    have : o' = o := Option.some.inj (ho'.symm.trans ho)
    subst this; exact hpre x hx hb
  -- the rest of the invariant, where no loud one comes
  have quiet : isEff e.r = false → ∀ (φ' : Phi) (w' : World) (V : Value), φ.le φ' → conc φ' e.v = some V → Rel φ' (A m) w' → Step φ0 H0 w0 φ' (A m) w' → (∀ f ∈ s.hist, f.l ≤ m → ∀ id ob, f.r = .made id ob → (listed.setIfInBounds e.i true).getD f.i false = false → φ'.at_ id = none) →
      Inv D s A ops T0 H0 nt φ0 w0 (listed.setIfInBounds e.i true) m φ' (a.put o.dst V) w' := by
    intro hE φ' w' V hle hv hR' hS' hph
    obtain ⟨g1, g2⟩ := slots_put (e := e) R.one I.size (R.dst e he o ho) hle he (fun f hf h => R.uniq he hf h) ho hlsz hv I.w1 I.w2
    rw [hbind] at g1 g2
    refine ⟨I.ml, fun f hf hfe => ?_, hR', hS', hph, I.lt, I.ds, ?_, ?_, g1, g2, hshut⟩
    · have hne : e.i ≠ f.i := fun h => by rw [R.uniq hf he h] at hE; rw [hE] at hfe; cases hfe
      rw [getD_other hne]; exact I.effs f hf hfe
    · have := I.size; cases hd : o.dst <;> simp [Act.put, this]
    · have := I.defers; cases hd : o.dst <;> simp [Act.put, this]
  have phq : ∀ f ∈ s.hist, f.l ≤ m → ∀ id ob, f.r = .made id ob → (listed.setIfInBounds e.i true).getD f.i false = false → φ.at_ id = none := by
    intro f hf hfl id ob hr hl
    by_cases h : e.i = f.i
    · rw [← h, getD_self hlsz] at hl; cases hl
    · rw [getD_other h] at hl; exact I.ph f hf hfl id ob hr hl
  -- its level
  have hlev : isEff e.r = false → e.l ≤ m := by
    intro hE
    rcases Nat.eq_zero_or_pos e.l with h0 | h0
    · omega
    · obtain ⟨f, hf, hfe, hfl, hd⟩ := open_before R.fin he e.l h0 (by rw [hE]; simp)
      have := hclL e.i f.i hd hpre'
      have := (I.effs f hf hfe).1 this
      omega
  have hrec : isEff e.r = false → RecOk P ops e (A m) := by
    intro hE
    have hl := hlev hE
    refine chk_all R.fin R.chk R.AB m I.ml e he hE hl ?_
    by_cases hlm : e.l = m
    · exact .inl hlm
    · refine .inr fun f hf hfe hfl => ?_
      cases hd : dep' M f.i e.i with
      | false => rfl
      | true =>
        have hfl' := (I.effs f hf hfe).2 (by omega)
        have := hclL f.i e.i hd fun o' ho' x hx hb => I.shut.closed f.i o' ho' hfl' x hx hb
        rw [hun'] at this; cases this
  have hent : EntOk P callF ops e := by
    obtain ⟨l1, l2, hsp⟩ := List.append_of_mem he
    rw [hsp] at hok
    obtain ⟨⟨T', H', l'', hh⟩, _⟩ := hist_split hok
    exact hh.2.2.2.1
  obtain ⟨o2, ho2, hent⟩ := hent
  have : o2 = o := Option.some.inj (ho2.symm.trans ho)
  subst this
  unfold wpOpIn
  simp only [ho]
  cases hr : e.r with
  | still =>
    rw [hr] at hent
    obtain ⟨_, hent⟩ := hent
    have hE : isEff e.r = false := by rw [hr]; rfl
    rcases hent with ⟨hw, hv⟩ | ⟨hw, hv⟩
    · rw [if_neg (by rw [wantedV_ok hlook hw]; simp)]
      exact ⟨fun _ _ => trivial, hK m φ _ w (quiet hE φ w undef (Phi.le_refl φ) (by rw [hv]; rfl) I.rel I.step phq)⟩
    · rw [if_pos (wantedV_ok hlook hw)]
      rw [evP_congr _ (restr_eq _ _)] at hv
      obtain ⟨V, g1, g2⟩ := evP_ok (P := P) hρ hv
      refine wpIn_of_wp (evP_nd hv) ?_
      unfold Oper.wp
      rw [g2 w]
      exact hK m φ _ w (quiet hE φ w V (Phi.le_refl φ) g1 I.rel I.step phq)
  | read =>
    rw [hr] at hent
    obtain ⟨_, hw⟩ := hent
    have hE : isEff e.r = false := by rw [hr]; rfl
    have hrc := hrec hE
    unfold RecOk at hrc
    rw [hr] at hrc
    have hv := hrc o2 ho
    rw [if_pos (wantedV_ok hlook hw)]
    rw [evRd_congr _ (restr_eq _ _)] at hv
    obtain ⟨V, g1, g2⟩ := evRd_ok (P := P) I.rel hρ hv
    refine wpIn_of_wp (evRd_nd hv) ?_
    unfold Oper.wp
    rw [g2]
    exact hK m φ _ w (quiet hE φ w V (Phi.le_refl φ) g1 I.rel I.step phq)
  | made id ob =>
    rw [hr] at hent
    obtain ⟨hw, _, _, mk, hv, hev⟩ := hent
    have hE : isEff e.r = false := by rw [hr]; rfl
    have hrc := hrec hE
    unfold RecOk at hrc
    rw [hr] at hrc
    rw [if_pos (wantedV_ok hlook hw)]
    rw [evN_congr _ (restr_eq _ _)] at hv
    obtain ⟨c, x, n, V, g1, g2, g3⟩ := evN_ok (P := P) hρ hv w
    have hel := hlev hE
    have hph := I.ph e he hel id ob hr hun'
    obtain ⟨hlt1, hlt2⟩ := I.lt e he hel id ob hr
    have hle := Phi.le_put (B := ⟨w.heap.size, 0, x⟩) hph
    have hborn := I.rel.born (c := c) (e := x) (n := n) hph hlt2 hrc g2
    have hsb := Step.born (H := A m) (c := c) (e := x) (n := n) hph (fun i B hi => (I.rel.dom i B hi).2)
    refine wpIn_of_wp (evN_nd hv) ?_
    unfold Oper.wp
    rw [g1]
    have hS := I.step
    refine hK m (φ.put id ⟨w.heap.size, 0, x⟩) _ (pushW w c n) (quiet hE _ _ V hle (by rw [hev]; exact g3 _ _ (Phi.put_at _ _ _)) hborn ⟨Phi.le_trans hS.le hle, fun j C hC => ?_, ?_, fun b hb hn => ?_, fun b hb hown => ?_, hS.next, hS.tape, hS.os, hS.output⟩ fun f hf hfl id' ob' hr' hl => ?_)
    · by_cases hj : j = id
      · subst hj; exact .inr hlt1
      · rw [Phi.put_ne hj] at hC; exact hS.new j C hC
    · simp only [pushW, Array.size_push]; exact Nat.le_succ_of_le hS.size
    · rw [hsb.1 b (Nat.lt_of_lt_of_le hb hS.size)]; exact hS.keep b hb hn
    · exact hS.own b hb (hsb.2 b (Nat.lt_of_lt_of_le hb hS.size) hown)
    · have hne : id' ≠ id := fun h => by
        subst h
        have := I.ds f hf e he hfl hel id' ob' ob hr' hr
        rw [this, getD_self hlsz] at hl; cases hl
      rw [Phi.put_ne hne]; exact phq f hf hfl id' ob' hr' hl
  | eff =>
    have hE : isEff e.r = true := by rw [hr]; rfl
    rw [hr] at hent
    -- it is the next one
    have hgt : ¬ e.l ≤ m := fun h => by have := (I.effs e he hE).2 h; rw [hun'] at this; cases this
    have hel : e.l = m + 1 := by
      refine Classical.byContradiction fun hne => ?_
      obtain ⟨f, hf, hfe, hfl, hd⟩ := open_before R.fin he (e.l - 1) (by omega) (by rw [hE]; simp; omega)
      have := hclL e.i f.i hd hpre'
      have := (I.effs f hf hfe).1 this
      omega
    have hmsl : m + 1 ≤ s.l := by have := lev_le hok e he; omega
    have FA := R.AB m I.ml
    have FB := R.AB (m + 1) hmsl
    have eH : e.H = A m := FA.fa e he hE hel
    have eB : e.H' = B (m + 1) := FB.fb e he hE hel
    have loud : ∀ (φ' : Phi) (w' : World) (V : Value), conc φ' e.v = some V → Rel φ' (B (m + 1)) w' → Step φ (A m) w φ' (B (m + 1)) w' → Inv D s A ops T0 H0 nt φ0 w0 (listed.setIfInBounds e.i true) (m + 1) φ' (a.put o2.dst V) w' := by
      intro φ' w' V hv hR' hS'
      obtain ⟨g1, g2⟩ := slots_put (e := e) R.one I.size (R.dst e he o2 ho) hS'.le he (fun f hf h => R.uniq he hf h) ho hlsz hv I.w1 I.w2
      rw [hbind] at g1 g2
      obtain ⟨k1, k2⟩ := FB.grow φ' w' hR'
      have hS2 := I.step.trans hS'
      have hlt : ∀ f ∈ s.hist, f.l ≤ m + 1 → ∀ id ob, f.r = .made id ob → H0.next ≤ id ∧ id < (A (m + 1)).next := by
        intro f hf hfl id ob hfr
        have hn1 := FB.nxt
        have hn2 := hS'.next
        have hn3 := hS2.next
        by_cases h : f.l ≤ m
        · have := I.lt f hf h id ob hfr; omega
        · have := FB.made f hf (by omega) id ob hfr; omega
      refine ⟨hmsl, fun f hf hfe => ?_, k1, ⟨hS2.le, hS2.new, hS2.size, hS2.keep, fun b hb ho' => hS2.own b hb (k2 b ho'), Nat.le_trans hS2.next FB.nxt, hS2.tape, hS2.os, hS2.output⟩, fun f hf hfl id ob hfr hl => ?_, hlt, fun f hf f' hf' hfl hfl' id ob ob' hr1 hr2 => ?_, ?_, ?_, g1, g2, hshut⟩
      · by_cases hfe' : e.i = f.i
        · rw [← hfe', getD_self hlsz]
          have : f = e := R.uniq he hf hfe'.symm
          subst this
          exact ⟨fun _ => by omega, fun _ => rfl⟩
        · rw [getD_other hfe', I.effs f hf hfe]
          refine ⟨fun h => by omega, fun h => ?_⟩
          rcases Nat.lt_or_ge m f.l with h2 | h2
          · have := eff_uniq hok f hf e he hfe hE (by omega)
            subst this; exact absurd rfl hfe'
          · exact h2
      · have hne : e.i ≠ f.i := fun h => by rw [← h, getD_self hlsz] at hl; cases hl
        rw [getD_other hne] at hl
        cases hat : φ'.at_ id with
        | none => rfl
        | some C =>
          exfalso
          by_cases h : f.l ≤ m
          · have h1 := I.ph f hf h id ob hfr hl
            rcases hS'.new id C hat with h2 | h2
            · rw [h1] at h2; cases h2
            · have := (I.lt f hf h id ob hfr).2; omega
          · have h1 := (FB.made f hf (by omega) id ob hfr).1
            have := (hR'.dom id C hat).1; omega
      · have hn2 := hS'.next
        by_cases h : f.l ≤ m <;> by_cases h' : f'.l ≤ m
        · exact I.ds f hf f' hf' h h' id ob ob' hr1 hr2
        · have h1 := (I.lt f hf h id ob hr1).2
          have h2 := (FB.made f' hf' (by omega) id ob' hr2).1; omega
        · have h1 := (I.lt f' hf' h' id ob' hr2).2
          have h2 := (FB.made f hf (by omega) id ob hr1).1; omega
        · exact FB.dist f hf f' hf' (by omega) (by omega) id ob ob' hr1 hr2
      · have := I.size; cases hd : o2.dst <;> simp [Act.put, this]
      · have := I.defers; cases hd : o2.dst <;> simp [Act.put, this]
    rcases hent with ⟨hw, hv, hH⟩ | ⟨hw, hv⟩
    · rw [if_neg (by rw [wantedV_ok hlook hw]; simp)]
      have hBA : B (m + 1) = A m := by rw [← eB, hH, eH]
      exact ⟨fun _ _ => trivial, hK (m + 1) φ _ w (loud φ w undef (by rw [hv]; rfl) (by rw [hBA]; exact I.rel) (by rw [hBA]; exact Step.refl _ _ _))⟩
    · rw [if_pos (wantedV_ok hlook hw)]
      rw [runOp_congr _ (restr_eq _ _), eH, eB] at hv
      refine (runOp_ok hc I.step I.rel hρ hv fun φ' x w' hR' hS' hx => ?_)
      exact hK (m + 1) φ' _ w' (loud φ' w' x hx hR' hS')
end
end Ev
end Go.Proofs.YtepdkcikkemieaaGreat
