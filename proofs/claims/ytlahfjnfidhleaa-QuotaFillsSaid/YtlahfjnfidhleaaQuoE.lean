/- The statement QuotaTakes, proved: for every bucket, amount and time the law answers true, and what was handed in reads as it did. No condition. -/
import Derived.Test.YtlahfjnfidhleaaQuoD
import Derived.Test.YtlahfjnfidhleaaOpen
import Derived.Lib.SmallJoins
namespace Go.Proofs.Ytlahfjnfidhleaa
open Go.ChangeShapes Go.WideShapes Go.ChangeAt Go.RowKit
set_option linter.unusedVariables false
set_option linter.unusedSimpArgs false

theorem Rd.one_int {P : Program} {w : World} {t : TypeId} {k : IntKind} {v : Value} (ht : P.underlying t = some (.int k)) {r : Reach} {b : Nat} (hk : Value.okWide P w r b t v) (h : Rd P w t v.cells.toList) : ∃ n, v = .int k n ∧ (Lit.int k n).wf = true := by
  obtain ⟨n, h1, h2⟩ := h.int ht
  refine ⟨n, ?_, h2⟩
  simp only [Value.okWide, ht, Cell.okWide] at hk
  cases v <;> simp_all [Cell.ok, Value.cells]

theorem four {l : List Value} (h : l.length = 4) : ∃ a b c d, l = [a, b, c, d] := by
  match l, h with
  | [a, b, c, d], _ => exact ⟨a, b, c, d, rfl⟩
theorem bucket_rd {w : World} {r : Reach} {b : Nat} {v : Value} (hk : Value.okWide Try.prog w r b 38 v) (h : Rd Try.prog w 38 v.cells.toList) : ∃ s rr l a, v = .agg #[.int .i64 s, .int .i64 rr, .int .i64 l, .int .i64 a] := by
  obtain ⟨cs, rfl, hsz⟩ := okWide_struct Try.underlying38 hk
  obtain ⟨hl, hf⟩ := h.struct Try.underlying38
  have c4 : Try.prog.cellsOf 38 = 4 := by kernel_rfl
  rw [c4] at hsz
  obtain ⟨c0, c1, c2, c3, hcs⟩ := four (l := cs.toList) (by simpa using hsz)
  have ecs : cs = #[c0, c1, c2, c3] := by apply Array.toList_inj.1; rw [hcs]
  subst ecs
  obtain ⟨n0, e0, _⟩ := (hf 0 _ rfl).int Try.underlying3
  obtain ⟨n1, e1, _⟩ := (hf 1 _ rfl).int Try.underlying3
  obtain ⟨n2, e2, _⟩ := (hf 2 _ rfl).int Try.underlying3
  obtain ⟨n3, e3, _⟩ := (hf 3 _ rfl).int Try.underlying3
  have cc : Try.prog.cellsOf 3 = 1 := by kernel_rfl
  simp [Value.cells, cc] at e0 e1 e2 e3
  exact ⟨n0, n1, n2, n3, by rw [e0, e1, e2, e3]⟩

theorem takes_rd {base : Nat} {w : World} (v0 v1 v2 : Value) (k0 : Value.okWide Try.prog w .any base 38 v0) (k1 : Value.okWide Try.prog w .any base 3 v1) (k2 : Value.okWide Try.prog w .any base 3 v2)
    (r0 : Rd Try.prog w 38 v0.cells.toList) (r1 : Rd Try.prog w 3 v1.cells.toList) (r2 : Rd Try.prog w 3 v2.cells.toList) :
    Calls Try.prog 4 #[v0, v1, v2] w fun e w' => e = .returned (.bool true) ∧ More w w' := by
  obtain ⟨s, r, l, a, rfl⟩ := bucket_rd k0 r0
  obtain ⟨n, rfl, _⟩ := Rd.one_int Try.underlying3 k1 r1
  obtain ⟨m, rfl, _⟩ := Rd.one_int Try.underlying3 k2 r2
  exact takes_walk s r l a n m w

set_option maxRecDepth 100000 in
theorem liftedQuotaTakes (os : Os) (started : os.Started) (H : Type) (enc : TypeId × Value → H) :
    ReturnsInHanded {} Try.checked os 4 .any (Rows.quotaTakesSpec.pre6 enc Try.prog Try.f4 Rows.quotaTakesRow.domain false) (Rows.quotaTakesSpec.post enc Try.prog Try.f4 false true false false) := by
  refine returnsInHanded_of_change (C := Try.checked) own started (by kernel_rfl) Try.func4
    (ChangeSpec.witness6 (enc := enc) (C := Try.checked) false ⟨#[], #[.agg #[.int .i64 0, .int .i64 0, .int .i64 0, .int .i64 0], .int .i64 0, .int .i64 0], []⟩ 8 (by kernel_rfl) (by kernel_rfl) (by kernel_rfl) (by kernel_rfl)) ?_
  intro W base args ds gs before hval0 hW hcnd _
  have hval : ∀ (j : Nat) t v, Try.f4.params[j]? = some t → args[j]? = some v → Value.okWide Try.prog W .any base t v := hval0
  have hW' := hW
  obtain ⟨p, q, hA0, hV, rfl, hfz, hnd⟩ := hW
  have hA : DataW.TrodAll enc Try.prog W 0 (fun _ => true) true Try.f4.params.toList args.toList ds p := hA0
  rw [Try.params4] at hA hval
  obtain ⟨v0, vs0, d0, ds0, p0, q0, hargs, rfl, rfl, h0, r0⟩ := trodAll_cons hA
  obtain ⟨v1, vs1, d1, ds1, p1, q1, rfl, rfl, rfl, h1, r1⟩ := trodAll_cons r0
  obtain ⟨v2, vs2, d2, ds2, p2, q2, rfl, rfl, rfl, h2, r2⟩ := trodAll_cons r1
  obtain ⟨rfl, rfl, rfl⟩ := trodAll_nil r2
  obtain rfl : args = #[v0, v1, v2] := by cases args; simp_all
  obtain ⟨rfl, rfl⟩ := trodVars_none hV
  have lt0 : ∀ x ∈ p0, x.block < W.heap.size := by obtain ⟨m, hm⟩ := h0; exact DataW.trod_lt m _ _ _ hm
  have rd0 : Rd Try.prog W 38 v0.cells.toList := by obtain ⟨m, hm⟩ := h0; exact ⟨H, enc, m, _, hm⟩
  have lt1 : ∀ x ∈ p1, x.block < W.heap.size := by obtain ⟨m, hm⟩ := h1; exact DataW.trod_lt m _ _ _ hm
  have rd1 : Rd Try.prog W 3 v1.cells.toList := by obtain ⟨m, hm⟩ := h1; exact ⟨H, enc, m, _, hm⟩
  have lt2 : ∀ x ∈ p2, x.block < W.heap.size := by obtain ⟨m, hm⟩ := h2; exact DataW.trod_lt m _ _ _ hm
  have rd2 : Rd Try.prog W 3 v2.cells.toList := by obtain ⟨m, hm⟩ := h2; exact ⟨H, enc, m, _, hm⟩
  clear hA0 hval0
  refine (takes_rd v0 v1 v2 (hval 0 38 v0 rfl rfl) (hval 1 3 v1 rfl rfl) (hval 2 3 v2 rfl rfl) rd0 rd1 rd2).mono fun e W' ⟨he, hmore⟩ => ?_
  subst he
  have bel := hmore.below
  exact ⟨_, rfl, _, _, _, [], _, [], hW', trodAll_mk1 (shut_bool Try.underlying4 _), (trodAll_cons_mk (Below.trod laidOut (by kernel_rfl) (of_decide_eq_true (by kernel_rfl)) h0 bel lt0) (trodAll_cons_mk (Below.trod laidOut (by kernel_rfl) (of_decide_eq_true (by kernel_rfl)) h1 bel lt1) (trodAll_cons_mk (Below.trod laidOut (by kernel_rfl) (of_decide_eq_true (by kernel_rfl)) h2 bel lt2) trodAll_mk0))), rfl, bel.frame _, fun h => by cases h⟩

theorem overQuotaTakes : Rows.quotaTakesRow.holds Try.pinned (OpenSpec.ofChange Rows.quotaTakesSpec) :=
  OpenClaim.holds_of_wide 4 Try.f4 rfl rfl rfl rfl rfl rfl rfl ⟨rfl, rfl, rfl, rfl, rfl⟩ rfl rfl rfl rfl rfl (by kernel_rfl) Try.func4 (by kernel_rfl)
    (of_decide_eq_true (by kernel_rfl)) (by unfold Func.isWrapper; first | (rw [if_pos (by decide +kernel)]; kernel_rfl) | (rw [if_neg (by decide +kernel)]; exact ⟨rfl, rfl⟩))
    (fun os started H enc _ => liftedQuotaTakes os started H enc)

/-- THE STATEMENT. -/
theorem provedQuotaTakes : Rows.QuotaTakesSaid := overQuotaTakes
#print axioms provedQuotaTakes
end Go.Proofs.Ytlahfjnfidhleaa
