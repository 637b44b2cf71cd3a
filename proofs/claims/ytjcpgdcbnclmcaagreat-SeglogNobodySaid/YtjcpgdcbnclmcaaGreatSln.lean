/- The statement SeglogNobody, proved: whatever the two numbers are, the law's call is run by the engine, the numbers as tokens. -/
import Derived.Test.YtjcpgdcbnclmcaaGreatOpen
import Derived.Test.YtjcpgdcbnclmcaaGreatSlr
namespace Go.Proofs.YtjcpgdcbnclmcaaGreat
open Go.ChangeShapes Go.WideShapes Go.ChangeAt Go.RowKit
set_option linter.unusedVariables false
set_option linter.unusedSimpArgs false

theorem Rd.one_int {P : Program} {w : World} {t : TypeId} {k : IntKind} {v : Value} (ht : P.underlying t = some (.int k)) {r : Reach} {b : Nat} (hk : Value.okWide P w r b t v) (h : Rd P w t v.cells.toList) : ∃ n, v = .int k n ∧ (Lit.int k n).wf = true := by
  obtain ⟨n, h1, h2⟩ := h.int ht
  refine ⟨n, ?_, h2⟩
  simp only [Value.okWide, ht, Cell.okWide] at hk
  cases v <;> simp_all [Cell.ok, Value.cells]

set_option maxRecDepth 100000 in
theorem sln_rd {base : Nat} {w : World} (v0 v1 : Value) (k0 : Value.okWide Tryz.prog w .any base 3 v0) (k1 : Value.okWide Tryz.prog w .any base 3 v1)
    (r0 : Rd Tryz.prog w 3 v0.cells.toList) (r1 : Rd Tryz.prog w 3 v1.cells.toList) :
    Calls Tryz.prog 3 #[v0, v1] w fun e w' => e = .returned (.bool true) ∧ More w w' := by
  obtain ⟨n0, rfl, _⟩ := Rd.one_int Tryz.underlying3 k0 r0
  obtain ⟨n1, rfl, _⟩ := Rd.one_int Tryz.underlying3 k1 r1
  obtain ⟨H, h⟩ := Ev.of_isOk Ev.sln_run
  exact Ev.call_more Ev.sln_follows Ev.fnP_ok 2000 h rfl (fun n => if n = 0 then some (.int .i64 n0) else some (.int .i64 n1)) rfl w

set_option maxRecDepth 100000 in
theorem liftedSeglogNobody (os : Os) (started : os.Started) (H : Type) (enc : TypeId × Value → H) :
    ReturnsInHanded {} Tryz.checked os 3 .any (Rows.seglogNobodySpec.pre6 enc Tryz.prog Tryz.f3 Rows.seglogNobodyRow.domain false) (Rows.seglogNobodySpec.post enc Tryz.prog Tryz.f3 false true false false) := by
  refine returnsInHanded_of_change (C := Tryz.checked) own started (by kernel_rfl) Tryz.func3
    (ChangeSpec.witness6 (enc := enc) (C := Tryz.checked) false ⟨#[], #[.int .i64 0, .int .i64 0], []⟩ 8 (by kernel_rfl) (by kernel_rfl) (by kernel_rfl) (by kernel_rfl)) ?_
  intro W base args ds gs before hval0 hW hcnd _
  have hval : ∀ (j : Nat) t v, Tryz.f3.params[j]? = some t → args[j]? = some v → Value.okWide Tryz.prog W .any base t v := hval0
  have hW' := hW
  obtain ⟨p, q, hA0, hV, rfl, hfz, hnd⟩ := hW
  have hA : DataW.TrodAll enc Tryz.prog W 0 (fun _ => true) true Tryz.f3.params.toList args.toList ds p := hA0
  rw [Tryz.params3] at hA hval
  obtain ⟨v0, vs0, d0, ds0, p0, q0, hargs, rfl, rfl, h0, r0⟩ := trodAll_cons hA
  obtain ⟨v1, vs1, d1, ds1, p1, q1, rfl, rfl, rfl, h1, r1⟩ := trodAll_cons r0
  obtain ⟨rfl, rfl, rfl⟩ := trodAll_nil r1
  obtain rfl : args = #[v0, v1] := by cases args; simp_all
  obtain ⟨rfl, rfl⟩ := trodVars_none hV
  have lt0 : ∀ x ∈ p0, x.block < W.heap.size := by obtain ⟨m, hm⟩ := h0; exact DataW.trod_lt m _ _ _ hm
  have rd0 : Rd Tryz.prog W 3 v0.cells.toList := by obtain ⟨m, hm⟩ := h0; exact ⟨H, enc, m, _, hm⟩
  have lt1 : ∀ x ∈ p1, x.block < W.heap.size := by obtain ⟨m, hm⟩ := h1; exact DataW.trod_lt m _ _ _ hm
  have rd1 : Rd Tryz.prog W 3 v1.cells.toList := by obtain ⟨m, hm⟩ := h1; exact ⟨H, enc, m, _, hm⟩
  clear hA0 hval0
  refine (sln_rd v0 v1 (hval 0 3 v0 rfl rfl) (hval 1 3 v1 rfl rfl) rd0 rd1).mono fun e W' ⟨he, hmore⟩ => ?_
  subst he
  have bel := hmore.below
  exact ⟨_, rfl, _, _, _, [], _, [], hW', trodAll_mk1 (shut_bool Tryz.underlying4 _), (trodAll_cons_mk (Below.trod laidOut (by kernel_rfl) (of_decide_eq_true (by kernel_rfl)) h0 bel lt0) (trodAll_cons_mk (Below.trod laidOut (by kernel_rfl) (of_decide_eq_true (by kernel_rfl)) h1 bel lt1) trodAll_mk0)), rfl, bel.frame _, fun h => by cases h⟩

theorem overSeglogNobody : Rows.seglogNobodyRow.holds Tryz.pinned (OpenSpec.ofChange Rows.seglogNobodySpec) :=
  OpenClaim.holds_of_wide 3 Tryz.f3 rfl rfl rfl rfl rfl rfl rfl ⟨rfl, rfl, rfl, rfl, rfl⟩ rfl rfl rfl rfl rfl (by kernel_rfl) Tryz.func3 (by kernel_rfl)
    (of_decide_eq_true (by kernel_rfl)) (by unfold Func.isWrapper; first | (rw [if_pos (by decide +kernel)]; kernel_rfl) | (rw [if_neg (by decide +kernel)]; exact ⟨rfl, rfl⟩))
    (fun os started H enc _ => liftedSeglogNobody os started H enc)

/-- THE STATEMENT. -/
theorem provedSeglogNobody : Rows.SeglogNobodySaid := overSeglogNobody
#print axioms provedSeglogNobody
end Go.Proofs.YtjcpgdcbnclmcaaGreat
