/- The statement ViewLooks, proved: of all views and every row asked for the law answers true. No condition. -/
import Derived.Test.YtlanghikmccmbaaVR
import Derived.Test.YtlanghikmccmbaaLK
namespace Go.Proofs.Ytlanghikmccmbaa
open Go.ChangeShapes Go.WideShapes Go.ChangeAt Go.RowKit
set_option linter.unusedVariables false
set_option linter.unusedSimpArgs false
set_option maxRecDepth 100000
theorem looks_rd {base : Nat} {w : World} (v0 v1 v2 : Value) (k0 : Value.okWide Try.prog w .any base 24 v0) (k1 : Value.okWide Try.prog w .any base 24 v1) (k2 : Value.okWide Try.prog w .any base 26 v2)
    (r0 : Rd Try.prog w 24 v0.cells.toList) (r1 : Rd Try.prog w 24 v1.cells.toList) (r2 : Rd Try.prog w 26 v2.cells.toList) :
    Calls Try.prog 3 #[v0, v1, v2] w fun e w' => e = .returned (.bool true) ∧ More w w' := by
  obtain ⟨x, a, cap, rfl, hr, hf, hl, _⟩ := view_rd k0 r0
  obtain ⟨y, a2, cap2, rfl, hr2, hf2, hl2, _⟩ := view_rd k1 r1
  obtain ⟨cs, rfl, hsz⟩ := okWide_agg Try.underlying26 k2
  obtain ⟨z, hz, hfz, _, _⟩ := vrow_rd r2
  have hcs : cs = #[.string (str z.key), .string (str z.value), .int .i64 z.offset, .int .i64 z.time] := by
    apply Array.toList_inj.1
    have h : cs.toList = vrCells z := hz
    rw [h]; rfl
  subst hcs
  exact looks_any x y a a2 cap cap2 z.key z.value z.offset z.time w hr hr2 (fun y hy => (hf y hy).1) (fun y hy => (hf2 y hy).1) hl hl2 hfz.1

set_option maxRecDepth 100000 in
theorem liftedViewLooks (os : Os) (started : os.Started) (H : Type) (enc : TypeId × Value → H) :
    ReturnsInHanded {} Try.checked os 3 .any (Rows.viewLooksSpec.pre6 enc Try.prog Try.f3 Rows.viewLooksRow.domain false) (Rows.viewLooksSpec.post enc Try.prog Try.f3 false true false false) := by
  refine returnsInHanded_of_change (C := Try.checked) own started (by kernel_rfl) Try.func3
    (ChangeSpec.witness6 (enc := enc) (C := Try.checked) false ⟨#[], #[.agg #[.int .i64 0, .slice none 0 0], .agg #[.int .i64 0, .slice none 0 0], .agg #[.string ⟨#[]⟩, .string ⟨#[]⟩, .int .i64 0, .int .i64 0]], []⟩ 8 (by kernel_rfl) (by kernel_rfl) (by kernel_rfl) (by kernel_rfl)) ?_
  intro W base args ds gs before hval0 hW hcnd _
  have hval : ∀ (j : Nat) t v, Try.f3.params[j]? = some t → args[j]? = some v → Value.okWide Try.prog W .any base t v := hval0
  have hW' := hW
  obtain ⟨p, q, hA0, hV, rfl, hfz, hnd⟩ := hW
  have hA : DataW.TrodAll enc Try.prog W 0 (fun _ => true) true Try.f3.params.toList args.toList ds p := hA0
  rw [Try.params3] at hA hval
  obtain ⟨v0, vs0, d0, ds0, p0, q0, hargs, rfl, rfl, h0, r0⟩ := trodAll_cons hA
  obtain ⟨v1, vs1, d1, ds1, p1, q1, rfl, rfl, rfl, h1, r1⟩ := trodAll_cons r0
  obtain ⟨v2, vs2, d2, ds2, p2, q2, rfl, rfl, rfl, h2, r2⟩ := trodAll_cons r1
  obtain ⟨rfl, rfl, rfl⟩ := trodAll_nil r2
  obtain rfl : args = #[v0, v1, v2] := by cases args; simp_all
  obtain ⟨rfl, rfl⟩ := trodVars_none hV
  have lt0 : ∀ x ∈ p0, x.block < W.heap.size := by obtain ⟨m, hm⟩ := h0; exact DataW.trod_lt m _ _ _ hm
  have rd0 : Rd Try.prog W 24 v0.cells.toList := by obtain ⟨m, hm⟩ := h0; exact ⟨H, enc, m, _, hm⟩
  have lt1 : ∀ x ∈ p1, x.block < W.heap.size := by obtain ⟨m, hm⟩ := h1; exact DataW.trod_lt m _ _ _ hm
  have rd1 : Rd Try.prog W 24 v1.cells.toList := by obtain ⟨m, hm⟩ := h1; exact ⟨H, enc, m, _, hm⟩
  have lt2 : ∀ x ∈ p2, x.block < W.heap.size := by obtain ⟨m, hm⟩ := h2; exact DataW.trod_lt m _ _ _ hm
  have rd2 : Rd Try.prog W 26 v2.cells.toList := by obtain ⟨m, hm⟩ := h2; exact ⟨H, enc, m, _, hm⟩
  clear hA0 hval0
  refine (looks_rd v0 v1 v2 (hval 0 24 v0 rfl rfl) (hval 1 24 v1 rfl rfl) (hval 2 26 v2 rfl rfl) rd0 rd1 rd2).mono fun e W' ⟨he, hmore⟩ => ?_
  subst he
  have bel := hmore.below
  exact ⟨_, rfl, _, _, _, [], _, [], hW', trodAll_mk1 (shut_bool Try.underlying4 _), (trodAll_cons_mk (Below.trod laidOut (by kernel_rfl) (of_decide_eq_true (by kernel_rfl)) h0 bel lt0) (trodAll_cons_mk (Below.trod laidOut (by kernel_rfl) (of_decide_eq_true (by kernel_rfl)) h1 bel lt1) (trodAll_cons_mk (Below.trod laidOut (by kernel_rfl) (of_decide_eq_true (by kernel_rfl)) h2 bel lt2) trodAll_mk0))), rfl, bel.frame _, fun h => by cases h⟩

theorem overViewLooks : Rows.viewLooksRow.holds Try.pinned (OpenSpec.ofChange Rows.viewLooksSpec) :=
  OpenClaim.holds_of_wide 3 Try.f3 rfl rfl rfl rfl rfl rfl rfl ⟨rfl, rfl, rfl, rfl, rfl⟩ rfl rfl rfl rfl rfl (by kernel_rfl) Try.func3 (by kernel_rfl)
    (of_decide_eq_true (by kernel_rfl)) (by unfold Func.isWrapper; first | (rw [if_pos (by decide +kernel)]; kernel_rfl) | (rw [if_neg (by decide +kernel)]; exact ⟨rfl, rfl⟩))
    (fun os started H enc _ => liftedViewLooks os started H enc)

/-- THE STATEMENT. -/
theorem provedViewLooks : Rows.ViewLooksSaid := overViewLooks
#print axioms provedViewLooks
end Go.Proofs.Ytlanghikmccmbaa
