/- The statement AuditNobody, proved: whatever the numbers are, the law's call is run by the engine, the numbers as tokens. -/
import Derived.Test.YtnfgfjpbfccnoaaGreatOpen
import Derived.Test.YtnfgfjpbfccnoaaGreatAub
namespace Go.Proofs.YtnfgfjpbfccnoaaGreat
open Go.ChangeShapes Go.WideShapes Go.ChangeAt Go.RowKit
set_option linter.unusedVariables false
set_option linter.unusedSimpArgs false
set_option maxRecDepth 100000

theorem okWide_array {P : Program} {w : World} {r : Reach} {b : Nat} {t e : TypeId} {n : Nat} {v : Value} (ht : P.underlying t = some (.array n e)) (h : Value.okWide P w r b t v) : ∃ cs, v = .agg cs ∧ cs.size = P.cellsOf t := by
  simp only [Value.okWide, ht] at h
  obtain ⟨cs, h1, h2, _⟩ := h
  exact ⟨cs, h1, h2⟩
theorem nine_of {l : List Value} (h : l.length = 9) : ∃ a b c d e f g i j, l = [a, b, c, d, e, f, g, i, j] := by
  match l, h with
  | [a, b, c, d, e, f, g, i, j], _ => exact ⟨a, b, c, d, e, f, g, i, j, rfl⟩
theorem aud_cells : Tryz.prog.cellsOf 21 = 1 ∧ Tryz.prog.cellsOf 22 = 9 := by refine ⟨?_, ?_⟩ <;> kernel_rfl
/-- Nine numbers that came in. -/
theorem nine_rd {w : World} {r : Reach} {b : Nat} {v : Value} (hk : Value.okWide Tryz.prog w r b 22 v) (h : Rd Tryz.prog w 22 v.cells.toList) : ∃ m : Nat → Int,
    v = .agg #[.int .i32 (m 0), .int .i32 (m 1), .int .i32 (m 2), .int .i32 (m 3), .int .i32 (m 4), .int .i32 (m 5), .int .i32 (m 6), .int .i32 (m 7), .int .i32 (m 8)] := by
  obtain ⟨ci, c9⟩ := aud_cells
  obtain ⟨cs, rfl, hsz⟩ := okWide_array Tryz.underlying22 hk
  obtain ⟨_, hf⟩ := h.array Tryz.underlying22
  rw [c9] at hsz
  obtain ⟨d0, d1, d2, d3, d4, d5, d6, d7, d8, hcs⟩ := nine_of (l := cs.toList) (by rw [Array.length_toList]; exact hsz)
  have ecs : cs = #[d0, d1, d2, d3, d4, d5, d6, d7, d8] := by apply Array.toList_inj.1; rw [hcs]
  subst ecs
  have key : ∀ i, i < 9 → ∃ n, (([d0, d1, d2, d3, d4, d5, d6, d7, d8].drop i).take 1) = [Value.int .i32 n] := fun i hi => by
    obtain ⟨n, e, _⟩ := (hf i hi).int Tryz.underlying21
    rw [ci, Nat.mul_one] at e
    exact ⟨n, e⟩
  obtain ⟨n0, e0⟩ := key 0 (by decide)
  obtain ⟨n1, e1⟩ := key 1 (by decide)
  obtain ⟨n2, e2⟩ := key 2 (by decide)
  obtain ⟨n3, e3⟩ := key 3 (by decide)
  obtain ⟨n4, e4⟩ := key 4 (by decide)
  obtain ⟨n5, e5⟩ := key 5 (by decide)
  obtain ⟨n6, e6⟩ := key 6 (by decide)
  obtain ⟨n7, e7⟩ := key 7 (by decide)
  obtain ⟨n8, e8⟩ := key 8 (by decide)
  simp at e0 e1 e2 e3 e4 e5 e6 e7 e8
  exact ⟨fun i => [n0, n1, n2, n3, n4, n5, n6, n7, n8].getD i 0, by rw [e0, e1, e2, e3, e4, e5, e6, e7, e8]; rfl⟩

set_option maxRecDepth 100000 in
theorem aud_rd {base : Nat} {w : World} (v0 v1 : Value) (k0 : Value.okWide Tryz.prog w .any base 22 v0) (k1 : Value.okWide Tryz.prog w .any base 22 v1)
    (r0 : Rd Tryz.prog w 22 v0.cells.toList) (r1 : Rd Tryz.prog w 22 v1.cells.toList) :
    Calls Tryz.prog 3 #[v0, v1] w fun e w' => e = .returned (.bool true) ∧ More w w' := by
  obtain ⟨m0, rfl⟩ := nine_rd k0 r0
  obtain ⟨m1, rfl⟩ := nine_rd k1 r1
  obtain ⟨H, h⟩ := Ev.of_isOk Ev.aud_run
  exact Ev.call_more Ev.follows Ev.fnA_ok 2000 h rfl (fun n => if n < 9 then some (.int .i32 (m0 n)) else some (.int .i32 (m1 (n - 9)))) rfl w

set_option maxRecDepth 100000 in
theorem liftedAuditNobody (os : Os) (started : os.Started) (H : Type) (enc : TypeId × Value → H) :
    ReturnsInHanded {} Tryz.checked os 3 .any (Rows.auditNobodySpec.pre6 enc Tryz.prog Tryz.f3 Rows.auditNobodyRow.domain false) (Rows.auditNobodySpec.post enc Tryz.prog Tryz.f3 false true false false) := by
  refine returnsInHanded_of_change (C := Tryz.checked) own started (by kernel_rfl) Tryz.func3
    (ChangeSpec.witness6 (enc := enc) (C := Tryz.checked) false ⟨#[], #[.agg #[.int .i32 0, .int .i32 0, .int .i32 0, .int .i32 0, .int .i32 0, .int .i32 0, .int .i32 0, .int .i32 0, .int .i32 0], .agg #[.int .i32 0, .int .i32 0, .int .i32 0, .int .i32 0, .int .i32 0, .int .i32 0, .int .i32 0, .int .i32 0, .int .i32 0]], []⟩ 8 (by kernel_rfl) (by kernel_rfl) (by kernel_rfl) (by kernel_rfl)) ?_
  intro W base args ds gs before hval0 hW hcnd _
  have hval : ∀ (j : Nat) t v, Tryz.f3.params[j]? = some t → args[j]? = some v → Value.okWide Tryz.prog W .any base t v := hval0
  have hW' := hW
  obtain ⟨p, q, hA0, hV, rfl, hfz, hnd⟩ := hW
  have hA : DataW.TrodAll enc Tryz.prog W 0 (fun _ => true) true Tryz.f3.params.toList args.toList ds p := hA0
  rw [Tryz.params3] at hA hval
  obtain ⟨v0, vs0, d0, ds0, p0, q0, hargs, rfl, rfl, h0, r0⟩ := trodAll_cons hA
  obtain ⟨v1, vs1, d1, ds1, p1, q1, rfl, rfl, rfl, h1, r1⟩ := trodAll_cons r0
  obtain ⟨rfl, rfl, rfl⟩ := trodAll_nil r1
  obtain rfl : args = #[v0, v1] := by cases args; simp_all
  obtain ⟨rfl, rfl⟩ := trodVars_none hV
  have lt0 : ∀ x ∈ p0, x.block < W.heap.size := by obtain ⟨m, hm⟩ := h0; exact DataW.trod_lt m _ _ _ hm
  have rd0 : Rd Tryz.prog W 22 v0.cells.toList := by obtain ⟨m, hm⟩ := h0; exact ⟨H, enc, m, _, hm⟩
  have lt1 : ∀ x ∈ p1, x.block < W.heap.size := by obtain ⟨m, hm⟩ := h1; exact DataW.trod_lt m _ _ _ hm
  have rd1 : Rd Tryz.prog W 22 v1.cells.toList := by obtain ⟨m, hm⟩ := h1; exact ⟨H, enc, m, _, hm⟩
  clear hA0 hval0
  refine (aud_rd v0 v1 (hval 0 22 v0 rfl rfl) (hval 1 22 v1 rfl rfl) rd0 rd1).mono fun e W' ⟨he, hmore⟩ => ?_
  subst he
  have bel := hmore.below
  exact ⟨_, rfl, _, _, _, [], _, [], hW', trodAll_mk1 (shut_bool Tryz.underlying4 _), (trodAll_cons_mk (Below.trod laidOut (by kernel_rfl) (of_decide_eq_true (by kernel_rfl)) h0 bel lt0) (trodAll_cons_mk (Below.trod laidOut (by kernel_rfl) (of_decide_eq_true (by kernel_rfl)) h1 bel lt1) trodAll_mk0)), rfl, bel.frame _, fun h => by cases h⟩

theorem overAuditNobody : Rows.auditNobodyRow.holds Tryz.pinned (OpenSpec.ofChange Rows.auditNobodySpec) :=
  OpenClaim.holds_of_wide 3 Tryz.f3 rfl rfl rfl rfl rfl rfl rfl ⟨rfl, rfl, rfl, rfl, rfl⟩ rfl rfl rfl rfl rfl (by kernel_rfl) Tryz.func3 (by kernel_rfl)
    (of_decide_eq_true (by kernel_rfl)) (by unfold Func.isWrapper; first | (rw [if_pos (by decide +kernel)]; kernel_rfl) | (rw [if_neg (by decide +kernel)]; exact ⟨rfl, rfl⟩))
    (fun os started H enc _ => liftedAuditNobody os started H enc)

/-- THE STATEMENT. -/
theorem provedAuditNobody : Rows.AuditNobodySaid := overAuditNobody
#print axioms provedAuditNobody
end Go.Proofs.YtnfgfjpbfccnoaaGreat
