/- THE ENGINE, 26: code is run. -/
import Derived.Test.YtepdkcikkemieaaGreatEvY
noncomputable section
namespace Go.Proofs.YtepdkcikkemieaaGreat
open Go.RowKit
set_option linter.unusedVariables false
set_option linter.unusedSimpArgs false
namespace Ev
variable {D : List Deferred} {rd : Option Nat}

section
variable {P : Program} {callF : Caller} {ops : Array Oper} {T0 : Tr Value} {H0 : Heap} {nt : Nat}
/-- The oldest one that has not come up may do so. -/
theorem some_ready : ∀ {h : List Ent} {T : Tr Value} {H : Heap} {l : Nat} {listed : Array Bool}, HistOk P callF ops T0 H0 h T H l → (∃ e ∈ h, listed.getD e.i false = false) → ∃ e ∈ h, listed.getD e.i false = false ∧ ∀ o, ops[e.i]? = some o → ∀ x ∈ o.after, Region.binds .any x = true → listed.getD x.on false = true
  | [], _, _, _, _, _, h => by obtain ⟨e, he, _⟩ := h; simp at he
  | e :: h, T, H, l, listed, hh, hx => by
    obtain ⟨_, _, _, _, hne, hp, l', _, hr⟩ := hh
    by_cases hy : ∃ f ∈ h, listed.getD f.i false = false
    · obtain ⟨f, hf, g⟩ := some_ready hr hy
      exact ⟨f, by simp [hf], g⟩
    · have hall : ∀ f ∈ h, listed.getD f.i false = true := fun f hf => by
        cases hl : listed.getD f.i false with
        | true => rfl
        | false => exact absurd ⟨f, hf, hl⟩ hy
      obtain ⟨f, hf, hfl⟩ := hx
      rcases List.mem_cons.1 hf with rfl | hf
      · refine ⟨f, by simp, hfl, fun o ho x hx hb => ?_⟩
        obtain ⟨g, hg, hgi⟩ := hp o ho x hx hb
        rw [← hgi]; exact hall g hg
      · rw [hall f hf] at hfl; cases hfl
theorem ready_of {listed : Array Bool} {i : Nat} {o : Oper} (hs : listed.size = ops.size) (ho : ops[i]? = some o) (hl : listed.getD i false = false) (hp : ∀ x ∈ o.after, Region.binds .any x = true → listed.getD x.on false = true) : i ∈ Region.ready .any ops listed := by
  have hi : i < listed.size := by rw [hs]; exact (Array.getElem?_eq_some_iff.1 ho).1
  refine mem_ready.2 ⟨?_, o, ho, hp⟩
  simpa [Array.getD_eq_getD_getElem?, hi] using hl
theorem sched {s : PS} {M : List Nat} {A B : Nat → Heap} (R : Run P callF ops T0 H0 nt s M A B) {φ0 : Phi} {w0 : World} (hc : CallOk P callF φ0 H0 w0) {Q : Exit → Act → World → Prop}
    (hQ : ∀ φ' a' w', Rel φ' s.H w' → FRel D φ' nt s.T a' → Step φ0 H0 w0 φ' s.H w' → Q .normal a' w') :
    ∀ (fuel : Nat) (listed : Array Bool) (m : Nat) (φ : Phi) (a : Act) (w : World), Inv D s A ops T0 H0 nt φ0 w0 listed m φ a w → cntU listed ops.size = fuel → wpAnyIn (wideR rd) 0 P .any ops Q fuel listed a w := by
  intro fuel
  induction fuel with
  | zero =>
    intro listed m φ a w I hcnt
    have hall := cntU_zero _ hcnt
    refine ⟨?_, ?_⟩
    · cases hrd : Region.ready .any ops listed with
      | nil => rfl
      | cons i l =>
        exfalso
        obtain ⟨hun, o, ho, _⟩ := mem_ready.1 (show i ∈ Region.ready .any ops listed by rw [hrd]; simp)
        have := hall i (Array.getElem?_eq_some_iff.1 ho).1
        rw [getD_both hun] at this; cases this
    · have hin : ∀ e ∈ s.hist, ∃ o, ops[e.i]? = some o := by
        intro e he
        obtain ⟨l1, l2, hsp⟩ := List.append_of_mem he
        have hok := R.fin.ok
        unfold PS.Ok at hok
        rw [hsp] at hok
        obtain ⟨⟨T', H', l'', hh⟩, _⟩ := hist_split hok
        obtain ⟨o, ho, _⟩ := hh.2.2.2.1
        exact ⟨o, ho⟩
      have hlist : ∀ e ∈ s.hist, listed.getD e.i false = true := fun e he => by
        obtain ⟨o, ho⟩ := hin e he
        exact hall e.i (Array.getElem?_eq_some_iff.1 ho).1
      have hml : m = s.l := by
        refine Classical.byContradiction fun hne => ?_
        have := I.ml
        obtain ⟨f, hf, hfe, hfl⟩ := eff_ex R.fin.ok (m + 1) (by omega) (by omega)
        have := (I.effs f hf hfe).1 (hlist f hf)
        omega
      have hA := (R.AB m I.ml).tp hml
      have hR := I.rel
      have hS := I.step
      rw [hA] at hR hS
      refine hQ φ a w hR ⟨I.size, fun t => ?_, I.defers⟩ hS
      have htmp := R.fin.ok.tmp t
      by_cases hw : ∃ g ∈ s.hist, ∃ og, ops[g.i]? = some og ∧ og.dst = some t
      · obtain ⟨g, hg, og, hog, hgd⟩ := hw
        rw [htmp.1 g hg og hog hgd]
        exact I.w1 g hg (hlist g hg) og hog t hgd
      · rw [htmp.2 fun g hg og hog hgd => hw ⟨g, hg, og, hog, hgd⟩]
        exact I.w2 t fun g hg _ og hog hgd => hw ⟨g, hg, og, hog, hgd⟩
  | succ fuel ih =>
    intro listed m φ a w I hcnt
    refine ⟨fun hnil => ?_, fun i hi => ?_⟩
    · exfalso
      -- one has not come up
      have hex : ∃ i, i < ops.size ∧ listed.getD i false = false := by
        refine Classical.byContradiction fun hno => ?_
        have hz : ∀ n, n ≤ ops.size → cntU listed n = 0 := by
          intro n
          induction n with
          | zero => intro _; rfl
          | succ n ihn =>
            intro hn
            rw [cntU_succ, ihn (by omega)]
            cases hl : listed.getD n false with
            | true => rfl
            | false => exact absurd ⟨n, by omega, hl⟩ hno
        rw [hz _ (Nat.le_refl _)] at hcnt; cases hcnt
      obtain ⟨i, hi, hil⟩ := hex
      obtain ⟨e, he, rfl⟩ := R.all i hi
      obtain ⟨f, hf, hfl, hfp⟩ := some_ready R.fin.ok ⟨e, he, hil⟩
      obtain ⟨l1, l2, hsp⟩ := List.append_of_mem hf
      have hok := R.fin.ok
      unfold PS.Ok at hok
      rw [hsp] at hok
      obtain ⟨⟨T', H', l'', hh⟩, _⟩ := hist_split hok
      obtain ⟨o, ho, _⟩ := hh.2.2.2.1
      have := ready_of I.shut.size ho hfl (hfp o ho)
      rw [hnil] at this; simp at this
    · obtain ⟨hun, o, ho, hpre⟩ := mem_ready.1 hi
      have hisz : i < ops.size := (Array.getElem?_eq_some_iff.1 ho).1
      refine inv_step R hc I hi fun m' φ' a' w' I' => ih _ m' φ' a' w' I' ?_
      have := cntU_set (by rw [I.shut.size]; exact hisz) (getD_both hun) ops.size hisz
      omega
def dstOk (nt : Nat) (ops : Array Oper) : Bool := ops.toList.all fun o => match o.dst with | some d => decide (d < nt) | none => true
theorem eff_pos : ∀ {h : List Ent} {T : Tr Value} {H : Heap} {l : Nat}, HistOk P callF ops T0 H0 h T H l → ∀ e ∈ h, isEff e.r = true → 1 ≤ e.l
  | [], _, _, _, _, e, he, _ => by simp at he
  | f :: h, T, H, l, hh, e, he, hE => by
    obtain ⟨_, _, hl, _, _, _, l', hl', hr⟩ := hh
    rcases List.mem_cons.1 he with rfl | he
    · rw [if_pos hE] at hl'; omega
    · exact eff_pos hr e he hE
theorem plan_wp (hm : P.follows .mixedOrders = true) {p : Plan} {s : PS} (hok : planOk ops p = true) (hd : dstOk nt ops = true) (hrun : runPlan P callF nt ops p ⟨T0, H0, [], 0⟩ = some s)
    {id : Nat} {φ0 : Phi} {a0 : Act} {w0 : World} (hc : CallOk P callF φ0 H0 { w0 with drawn := w0.drawn + 1 }) (hR : Rel φ0 H0 w0) (hF : FRel D φ0 nt T0 a0) {Q : Exit → Act → World → Prop}
    (hQ : ∀ φ' a' w', Rel φ' s.H w' → FRel D φ' nt s.T a' → Step φ0 H0 { w0 with drawn := w0.drawn + 1 } φ' s.H w' → Q .normal a' w') : (Code.region id ops true).wpIn (wideR rd) 0 P Q a0 w0 := by
  unfold planOk at hok
  simp only [Bool.and_eq_true] at hok
  obtain ⟨⟨⟨⟨h1, h2⟩, h3⟩, h4⟩, h5⟩ := hok
  have hhz : ∀ (i j : Nat) (oi oj : Oper) (d : Tmp), ops[i]? = some oi → ops[j]? = some oj → oi.dst = some d → i = j ∨ (oj.dst ≠ some d ∧ (d ∈ oj.looksAt ops → dep' (waits [] ops.toList) j i = true ∨ dep' (waits [] ops.toList) i j = true)) := by
    intro i j oi oj d hi hj hdi
    have hi' : i < ops.size := (Array.getElem?_eq_some_iff.1 hi).1
    have hj' : j < ops.size := (Array.getElem?_eq_some_iff.1 hj).1
    have := (List.all_eq_true.1 ((List.all_eq_true.1 h5) i (by simpa using hi'))) j (by simpa using hj')
    unfold hazB at this
    have e1 : ops.toList[i]? = some oi := by simpa using hi
    have e2 : ops.toList[j]? = some oj := by simpa using hj
    rw [e1, e2] at this
    simp only [hdi, Bool.or_eq_true, Bool.and_eq_true, beq_iff_eq, bne_iff_ne, Bool.not_eq_true'] at this
    rcases this with h | ⟨ha, hb⟩
    · exact .inl h
    · refine .inr ⟨ha, fun hl => ?_⟩
      rcases hb with (hb | hb) | hb
      · have : (oj.looksAt ops).contains d = true := by simpa using hl
        rw [this] at hb; cases hb
      · exact .inl hb
      · exact .inr hb
  have hone : OneDst ops := fun i j oi oj d hi hj hdi hdj => by
    rcases hhz i j oi oj d hi hj hdi with h | ⟨h, _⟩
    · exact h
    · exact absurd hdj h
  obtain ⟨f1, f2, f3⟩ := runPlan_final (M := waits [] ops.toList) hone p ⟨T0, H0, [], 0⟩ s [] none ⟨⟨rfl, rfl, rfl⟩, trivial, trivial⟩ hrun h3 h4 ⟨rfl, rfl, rfl⟩ (fun _ e he => by simp at he)
  have hfacts := facts f1.ok
  have hch : ∃ A B : Nat → Heap, ∀ m, m ≤ s.l → Facts H0 s.hist s.H s.l m (A m) (B m) := by
    refine ⟨fun m => if h : m ≤ s.l then (hfacts m h).choose else H0, fun m => if h : m ≤ s.l then (hfacts m h).choose_spec.choose else H0, fun m hm => ?_⟩
    simp only [dif_pos hm]
    exact (hfacts m hm).choose_spec.choose_spec
  obtain ⟨A, B, hAB⟩ := hch
  have R : Run P callF ops T0 H0 nt s (waits [] ops.toList) A B := by
    refine ⟨rfl, f1, f2, hAB, hone, fun i j oi oj d hi hj hdi hl => ?_, fun i hi => ?_, fun e he o ho d hdo => ?_⟩
    · rcases hhz i j oi oj d hi hj hdi with h | ⟨_, h⟩
      · exact .inl h
      · exact .inr (h hl)
    · have := (List.all_eq_true.1 h2) i (by simpa using hi)
      have hmem : i ∈ p.ord := by simpa using this
      have : i ∈ s.hist.map (·.i) := by rw [f3]; simp [hmem]
      rw [List.mem_map] at this
      obtain ⟨e, he, h⟩ := this
      exact ⟨e, he, h⟩
    · have ho' : o ∈ ops.toList := by
        have : ops.toList[e.i]? = some o := by simpa using ho
        exact List.mem_of_getElem? this
      have := (List.all_eq_true.1 hd) o ho'
      rw [hdo] at this
      simpa using this
  refine wpIn_region_any hm ?_
  have F0 := hAB 0 (Nat.zero_le _)
  have hB0 : B 0 = H0 := F0.f0 rfl
  have hR' : Rel φ0 H0 { w0 with drawn := w0.drawn + 1 } := hR.heap rfl
  have hg := F0.grow φ0 { w0 with drawn := w0.drawn + 1 } (by rw [hB0]; exact hR')
  rw [hB0] at hg
  have hlev0 : ∀ e ∈ s.hist, e.l ≤ 0 → ∀ id ob, e.r = .made id ob → H0.next ≤ id ∧ id < (A 0).next := fun e he hl id ob hr => by
    have := F0.made e he (by omega) id ob hr; rw [hB0] at this; exact this
  have hcnt : cntU (Array.replicate ops.size false) ops.size = ops.size := by
    have : ∀ n, n ≤ ops.size → cntU (Array.replicate ops.size false) n = n := by
      intro n
      induction n with
      | zero => intro _; rfl
      | succ n ih => intro hn; rw [cntU_succ, ih (by omega)]; simp [show n < ops.size by omega]
    exact this _ (Nat.le_refl _)
  have hnone : ∀ i, (Array.replicate ops.size false).getD i false = false := by
    intro i; by_cases h : i < ops.size <;> simp [Array.getD_eq_getD_getElem?, h]
  refine sched R hc hQ ops.size _ 0 φ0 a0 { w0 with drawn := w0.drawn + 1 } ⟨Nat.zero_le _, fun f hf hfe => ?_, hg.1, ?_, fun e he hl id ob hr _ => ?_, hlev0, fun e he e' he' hl hl' id ob ob' h1 h2 => F0.dist e he e' he' (by omega) (by omega) id ob ob' h1 h2, hF.size, hF.defers, fun e he hl => ?_, fun t _ => hF.vals t, ?_⟩ hcnt
  · rw [hnone]
    have := eff_pos f1.ok f hf hfe
    exact ⟨(fun h => by cases h), (fun h => by omega)⟩
  · exact ⟨Phi.le_refl φ0, fun _ _ h => .inl h, Nat.le_refl _, fun _ _ _ => rfl, fun b _ hb => hg.2 b hb, by have := F0.nxt; rw [hB0] at this; exact this, rfl, rfl, rfl⟩
  · cases hat : φ0.at_ id with
    | none => rfl
    | some C =>
      have h1 := (hlev0 e he hl id ob hr).1
      have := (hR.dom id C hat).1; omega
  · rw [hnone] at hl; cases hl
  · exact ⟨by simp, fun j o hj hl => by rw [hnone] at hl; cases hl⟩
end
end Ev
end Go.Proofs.YtepdkcikkemieaaGreat
