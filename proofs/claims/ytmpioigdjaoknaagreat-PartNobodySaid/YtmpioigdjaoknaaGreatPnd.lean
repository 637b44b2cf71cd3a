/- The statement PartNobody, proved: whatever the number is, the law's call is run by the engine. -/
import Derived.Test.YtmpioigdjaoknaaGreatOpen
import Derived.Test.YtmpioigdjaoknaaGreatPnb
namespace Go.Proofs.YtmpioigdjaoknaaGreat
open Go.ChangeShapes Go.WideShapes Go.ChangeAt Go.RowKit
set_option linter.unusedVariables false
set_option linter.unusedSimpArgs false
set_option maxRecDepth 100000

theorem Rd.one_int {P : Program} {w : World} {t : TypeId} {k : IntKind} {v : Value} (ht : P.underlying t = some (.int k)) {r : Reach} {b : Nat} (hk : Value.okWide P w r b t v) (h : Rd P w t v.cells.toList) : ∃ n, v = .int k n ∧ (Lit.int k n).wf = true := by
  obtain ⟨n, h1, h2⟩ := h.int ht
  refine ⟨n, ?_, h2⟩
  simp only [Value.okWide, ht, Cell.okWide] at hk
  cases v <;> simp_all [Cell.ok, Value.cells]

theorem prt_rd {base : Nat} {w : World} (v0 : Value) (k0 : Value.okWide Tryz.prog w .any base 3 v0) (r0 : Rd Tryz.prog w 3 v0.cells.toList) :
    Calls Tryz.prog 3 #[v0] w fun e w' => e = .returned (.bool true) ∧ More w w' := by
  obtain ⟨m, rfl, hw⟩ := Rd.one_int Tryz.underlying3 k0 r0
  have hb : -9223372036854775808 ≤ m ∧ m ≤ 9223372036854775807 := by
    have e1 : IntKind.i64.min = -9223372036854775808 := by decide
    have e2 : IntKind.i64.max = 9223372036854775807 := by decide
    simp only [Lit.wf, Bool.and_eq_true, decide_eq_true_eq] at hw
    rw [e1, e2] at hw
    exact hw
  rcases Int.lt_trichotomy m 0 with h | h | h
  · obtain ⟨H, hr⟩ := Ev.of_isOk Ev.neg_run
    refine Ev.call_more Ev.follows Ev.fnA_ok 2000 hr rfl (fun _ => some (.int .i64 m)) (A := [.int .i64 m]) ?_ w
    simp only [Ev.concL]
    have hc := Ev.conc_rng (φ := ⟨fun _ => none, fun _ => some (.int .i64 m)⟩) (n := 89202980794122492556471466533676412626272260) (by kernel_rfl) Ev.tNeg_lo Ev.tNeg_hi rfl hb.1 (by omega)
    rw [hc]
  · subst h
    obtain ⟨H, hr⟩ := Ev.of_isOk Ev.zero_run
    exact Ev.call_more Ev.follows Ev.fnA_ok 2000 hr rfl (fun _ => none) (A := [.int .i64 0]) rfl w
  · obtain ⟨H, hr⟩ := Ev.of_isOk Ev.pos_run
    refine Ev.call_more Ev.follows Ev.fnA_ok 2000 hr rfl (fun _ => some (.int .i64 m)) (A := [.int .i64 m]) ?_ w
    simp only [Ev.concL]
    have hc := Ev.conc_rng (φ := ⟨fun _ => none, fun _ => some (.int .i64 m)⟩) (n := 178405961588244985127450042902728375349542916) (by kernel_rfl) Ev.tPos_lo Ev.tPos_hi rfl (by omega) hb.2
    rw [hc]

set_option maxRecDepth 100000 in
theorem liftedPartNobody (os : Os) (started : os.Started) (H : Type) (enc : TypeId × Value → H) :
    ReturnsInHanded {} Tryz.checked os 3 .any (Rows.partNobodySpec.pre6 enc Tryz.prog Tryz.f3 Rows.partNobodyRow.domain false) (Rows.partNobodySpec.post enc Tryz.prog Tryz.f3 false true false false) := by
  refine returnsInHanded_of_change (C := Tryz.checked) own started (by kernel_rfl) Tryz.func3
    (ChangeSpec.witness6 (enc := enc) (C := Tryz.checked) false ⟨#[], #[.int .i64 0], []⟩ 8 (by kernel_rfl) (by kernel_rfl) (by kernel_rfl) (by kernel_rfl)) ?_
  intro W base args ds gs before hval0 hW hcnd _
  have hval : ∀ (j : Nat) t v, Tryz.f3.params[j]? = some t → args[j]? = some v → Value.okWide Tryz.prog W .any base t v := hval0
  have hW' := hW
  obtain ⟨p, q, hA0, hV, rfl, hfz, hnd⟩ := hW
  have hA : DataW.TrodAll enc Tryz.prog W 0 (fun _ => true) true Tryz.f3.params.toList args.toList ds p := hA0
  rw [Tryz.params3] at hA hval
  obtain ⟨v0, vs0, d0, ds0, p0, q0, hargs, rfl, rfl, h0, r0⟩ := trodAll_cons hA
  obtain ⟨rfl, rfl, rfl⟩ := trodAll_nil r0
  obtain rfl : args = #[v0] := by cases args; simp_all
  obtain ⟨rfl, rfl⟩ := trodVars_none hV
  have lt0 : ∀ x ∈ p0, x.block < W.heap.size := by obtain ⟨m, hm⟩ := h0; exact DataW.trod_lt m _ _ _ hm
  have rd0 : Rd Tryz.prog W 3 v0.cells.toList := by obtain ⟨m, hm⟩ := h0; exact ⟨H, enc, m, _, hm⟩
  clear hA0 hval0
  refine (prt_rd v0 (hval 0 3 v0 rfl rfl) rd0).mono fun e W' ⟨he, hmore⟩ => ?_
  subst he
  have bel := hmore.below
  exact ⟨_, rfl, _, _, _, [], _, [], hW', trodAll_mk1 (shut_bool Tryz.underlying4 _), (trodAll_cons_mk (Below.trod laidOut (by kernel_rfl) (of_decide_eq_true (by kernel_rfl)) h0 bel lt0) trodAll_mk0), rfl, bel.frame _, fun h => by cases h⟩

theorem overPartNobody : Rows.partNobodyRow.holds Tryz.pinned (OpenSpec.ofChange Rows.partNobodySpec) :=
  OpenClaim.holds_of_wide 3 Tryz.f3 rfl rfl rfl rfl rfl rfl rfl ⟨rfl, rfl, rfl, rfl, rfl⟩ rfl rfl rfl rfl rfl (by kernel_rfl) Tryz.func3 (by kernel_rfl)
    (of_decide_eq_true (by kernel_rfl)) (by unfold Func.isWrapper; first | (rw [if_pos (by decide +kernel)]; kernel_rfl) | (rw [if_neg (by decide +kernel)]; exact ⟨rfl, rfl⟩))
    (fun os started H enc _ => liftedPartNobody os started H enc)

/-- THE STATEMENT. -/
theorem provedPartNobody : Rows.PartNobodySaid := overPartNobody
#print axioms provedPartNobody
end Go.Proofs.YtmpioigdjaoknaaGreat
