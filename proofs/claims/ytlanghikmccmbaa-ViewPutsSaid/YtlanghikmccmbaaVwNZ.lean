/- The statement ViewPuts, proved: of every view and all bytes the law answers true. No condition. -/
import Derived.Test.YtlanghikmccmbaaVR
import Derived.Test.YtlanghikmccmbaaVM
namespace Go.Proofs.Ytlanghikmccmbaa
open Go.ChangeShapes Go.WideShapes Go.ChangeAt Go.RowKit
set_option linter.unusedVariables false
set_option linter.unusedSimpArgs false
set_option maxRecDepth 100000
theorem puts_rd {base : Nat} {w : World} (v0 v1 : Value) (k0 : Value.okWide Try.prog w .any base 24 v0) (k1 : Value.okWide Try.prog w .any base 48 v1)
    (r0 : Rd Try.prog w 24 v0.cells.toList) (r1 : Rd Try.prog w 48 v1.cells.toList) :
    Calls Try.prog 4 #[v0, v1] w fun e w' => e = .returned (.bool true) ∧ More w w' := by
  obtain ⟨x, a, cap, rfl, hr, hf, hl, _⟩ := view_rd k0 r0
  obtain ⟨a1, c1, l, hv, hb⟩ := bytes_rd r1
  obtain rfl := slice_of_cells hv Try.underlying48 k1
  exact puts_any x a cap _ l w hr (fun y hy => (hf y hy).1) hl hb

set_option maxRecDepth 100000 in
theorem liftedViewPuts (os : Os) (started : os.Started) (H : Type) (enc : TypeId × Value → H) :
    ReturnsInHanded {} Try.checked os 4 .any (Rows.viewPutsSpec.pre6 enc Try.prog Try.f4 Rows.viewPutsRow.domain false) (Rows.viewPutsSpec.post enc Try.prog Try.f4 false true false false) := by
  refine returnsInHanded_of_change (C := Try.checked) own started (by kernel_rfl) Try.func4
    (ChangeSpec.witness6 (enc := enc) (C := Try.checked) false ⟨#[], #[.agg #[.int .i64 0, .slice none 0 0], .slice none 0 0], []⟩ 8 (by kernel_rfl) (by kernel_rfl) (by kernel_rfl) (by kernel_rfl)) ?_
  intro W base args ds gs before hval0 hW hcnd _
  have hval : ∀ (j : Nat) t v, Try.f4.params[j]? = some t → args[j]? = some v → Value.okWide Try.prog W .any base t v := hval0
  have hW' := hW
  obtain ⟨p, q, hA0, hV, rfl, hfz, hnd⟩ := hW
  have hA : DataW.TrodAll enc Try.prog W 0 (fun _ => true) true Try.f4.params.toList args.toList ds p := hA0
  rw [Try.params4] at hA hval
  obtain ⟨v0, vs0, d0, ds0, p0, q0, hargs, rfl, rfl, h0, r0⟩ := trodAll_cons hA
  obtain ⟨v1, vs1, d1, ds1, p1, q1, rfl, rfl, rfl, h1, r1⟩ := trodAll_cons r0
  obtain ⟨rfl, rfl, rfl⟩ := trodAll_nil r1
  obtain rfl : args = #[v0, v1] := by cases args; simp_all
  obtain ⟨rfl, rfl⟩ := trodVars_none hV
  have lt0 : ∀ x ∈ p0, x.block < W.heap.size := by obtain ⟨m, hm⟩ := h0; exact DataW.trod_lt m _ _ _ hm
  have rd0 : Rd Try.prog W 24 v0.cells.toList := by obtain ⟨m, hm⟩ := h0; exact ⟨H, enc, m, _, hm⟩
  have lt1 : ∀ x ∈ p1, x.block < W.heap.size := by obtain ⟨m, hm⟩ := h1; exact DataW.trod_lt m _ _ _ hm
  have rd1 : Rd Try.prog W 48 v1.cells.toList := by obtain ⟨m, hm⟩ := h1; exact ⟨H, enc, m, _, hm⟩
  clear hA0 hval0
  refine (puts_rd v0 v1 (hval 0 24 v0 rfl rfl) (hval 1 48 v1 rfl rfl) rd0 rd1).mono fun e W' ⟨he, hmore⟩ => ?_
  subst he
  have bel := hmore.below
  exact ⟨_, rfl, _, _, _, [], _, [], hW', trodAll_mk1 (shut_bool Try.underlying4 _), (trodAll_cons_mk (Below.trod laidOut (by kernel_rfl) (of_decide_eq_true (by kernel_rfl)) h0 bel lt0) (trodAll_cons_mk (Below.trod laidOut (by kernel_rfl) (of_decide_eq_true (by kernel_rfl)) h1 bel lt1) trodAll_mk0)), rfl, bel.frame _, fun h => by cases h⟩

theorem overViewPuts : Rows.viewPutsRow.holds Try.pinned (OpenSpec.ofChange Rows.viewPutsSpec) :=
  OpenClaim.holds_of_wide 4 Try.f4 rfl rfl rfl rfl rfl rfl rfl ⟨rfl, rfl, rfl, rfl, rfl⟩ rfl rfl rfl rfl rfl (by kernel_rfl) Try.func4 (by kernel_rfl)
    (of_decide_eq_true (by kernel_rfl)) (by unfold Func.isWrapper; first | (rw [if_pos (by decide +kernel)]; kernel_rfl) | (rw [if_neg (by decide +kernel)]; exact ⟨rfl, rfl⟩))
    (fun os started H enc _ => liftedViewPuts os started H enc)

/-- THE STATEMENT. -/
theorem provedViewPuts : Rows.ViewPutsSaid := overViewPuts
#print axioms provedViewPuts
end Go.Proofs.Ytlanghikmccmbaa
