/- The statement ScriptPuts, proved: any step, and any steps, have the bytes that the document says, or it is told why not; whether any two are one is told as it says. No condition. -/
import Derived.Test.YtejokhgabcldhaaMZ
namespace Go.Proofs.Ytejokhgabcldhaa
open Go.ChangeShapes Go.WideShapes Go.ChangeAt Go.RowKit
set_option linter.unusedVariables false
set_option linter.unusedSimpArgs false

set_option maxRecDepth 100000 in
theorem stpv_rd {w : World} {r : Reach} {b : Nat} {v : Value} (hk : Value.okWide Try.prog w r b 30 v) (h : Rd Try.prog w 30 v.cells.toList) : ∃ s a c f fc, v = .agg (stp s a c f fc) ∧ StpAt w s a f fc ∧ StpFit s := by
  obtain ⟨cs, rfl, hsz⟩ := okWide_struct Try.underlying30 hk
  obtain ⟨⟨s, a, c, f, fc⟩, hx, hat, hfit⟩ := stp_rd h
  refine ⟨s, a, c, f, fc, ?_, hat, hfit⟩
  congr 1
  apply Array.toList_inj.1
  rw [stm_toList]
  exact hx
set_option maxRecDepth 100000 in
theorem puts_rd {base : Nat} {w : World} (v0 v1 : Value) (k0 : Value.okWide Try.prog w .any base 22 v0) (k1 : Value.okWide Try.prog w .any base 30 v1)
    (r0 : Rd Try.prog w 22 v0.cells.toList) (r1 : Rd Try.prog w 30 v1.cells.toList) :
    Calls Try.prog 3 #[v0, v1] w fun e w' => e = .returned (.bool true) ∧ More w w' := by
  obtain ⟨ad, cap, l, hv, hs, hf, hm⟩ := stms_rd r0
  obtain rfl := slice_of_cells hv Try.underlying22 k0
  obtain ⟨s, a, c, f, fc, rfl, hat, hfit⟩ := stpv_rd k1 r1
  exact puts_walk ad cap l s a c f fc w hs hat hf hfit hm

set_option maxRecDepth 100000 in
theorem liftedScriptPuts (os : Os) (started : os.Started) (H : Type) (enc : TypeId × Value → H) :
    ReturnsInHanded {} Try.checked os 3 .any (Rows.scriptPutsSpec.pre6 enc Try.prog Try.f3 Rows.scriptPutsRow.domain false) (Rows.scriptPutsSpec.post enc Try.prog Try.f3 false true false false) := by
  refine returnsInHanded_of_change (C := Try.checked) own started (by kernel_rfl) Try.func3
    (ChangeSpec.witness6 (enc := enc) (C := Try.checked) false ⟨#[], #[.slice none 0 0, .agg (stp (stpBlank 0) none 0 none 0)], []⟩ 8 (by kernel_rfl) (by kernel_rfl) (by kernel_rfl) (by kernel_rfl)) ?_
  intro W base args ds gs before hval0 hW hcnd _
  have hval : ∀ (j : Nat) t v, Try.f3.params[j]? = some t → args[j]? = some v → Value.okWide Try.prog W .any base t v := hval0
  have hW' := hW
  obtain ⟨p, q, hA0, hV, rfl, hfz, hnd⟩ := hW
  have hA : DataW.TrodAll enc Try.prog W 0 (fun _ => true) true Try.f3.params.toList args.toList ds p := hA0
  rw [Try.params3] at hA hval
  obtain ⟨v0, vs0, d0, ds0, p0, q0, hargs, rfl, rfl, h0, r0⟩ := trodAll_cons hA
  obtain ⟨v1, vs1, d1, ds1, p1, q1, rfl, rfl, rfl, h1, r1⟩ := trodAll_cons r0
  obtain ⟨rfl, rfl, rfl⟩ := trodAll_nil r1
  obtain rfl : args = #[v0, v1] := by cases args; simp_all
  obtain ⟨rfl, rfl⟩ := trodVars_none hV
  have lt0 : ∀ x ∈ p0, x.block < W.heap.size := by obtain ⟨m, hm⟩ := h0; exact DataW.trod_lt m _ _ _ hm
  have rd0 : Rd Try.prog W 22 v0.cells.toList := by obtain ⟨m, hm⟩ := h0; exact ⟨H, enc, m, _, hm⟩
  have lt1 : ∀ x ∈ p1, x.block < W.heap.size := by obtain ⟨m, hm⟩ := h1; exact DataW.trod_lt m _ _ _ hm
  have rd1 : Rd Try.prog W 30 v1.cells.toList := by obtain ⟨m, hm⟩ := h1; exact ⟨H, enc, m, _, hm⟩
  clear hA0 hval0
  refine (puts_rd v0 v1 (hval 0 22 v0 rfl rfl) (hval 1 30 v1 rfl rfl) rd0 rd1).mono fun e W' ⟨he, hmore⟩ => ?_
  subst he
  have bel := hmore.below
  exact ⟨_, rfl, _, _, _, [], _, [], hW', trodAll_mk1 (shut_bool Try.underlying4 _), (trodAll_cons_mk (Below.trod laidOut (by kernel_rfl) (of_decide_eq_true (by kernel_rfl)) h0 bel lt0) (trodAll_cons_mk (Below.trod laidOut (by kernel_rfl) (of_decide_eq_true (by kernel_rfl)) h1 bel lt1) trodAll_mk0)), rfl, bel.frame _, fun h => by cases h⟩

theorem overScriptPuts : Rows.scriptPutsRow.holds Try.pinned (OpenSpec.ofChange Rows.scriptPutsSpec) :=
  OpenClaim.holds_of_wide 3 Try.f3 rfl rfl rfl rfl rfl rfl rfl ⟨rfl, rfl, rfl, rfl, rfl⟩ rfl rfl rfl rfl rfl (by kernel_rfl) Try.func3 (by kernel_rfl)
    (of_decide_eq_true (by kernel_rfl)) (by unfold Func.isWrapper; first | (rw [if_pos (by decide +kernel)]; kernel_rfl) | (rw [if_neg (by decide +kernel)]; exact ⟨rfl, rfl⟩))
    (fun os started H enc _ => liftedScriptPuts os started H enc)

/-- THE STATEMENT. -/
theorem provedScriptPuts : Rows.ScriptPutsSaid := overScriptPuts
#print axioms provedScriptPuts
end Go.Proofs.Ytejokhgabcldhaa
