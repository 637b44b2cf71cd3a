/- The statement QuotaNever, proved: for every size, rate and list of takings the law answers true, and what was handed in reads as it did. No condition. -/
import Derived.Test.YtlahfjnfidhleaaQuoE
namespace Go.Proofs.Ytlahfjnfidhleaa
open Go.ChangeShapes Go.WideShapes Go.ChangeAt Go.RowKit
set_option linter.unusedVariables false
set_option linter.unusedSimpArgs false

theorem wf_u16 {n : Int} (h : (Lit.int .u16 n).wf = true) : 0 ≤ n ∧ n ≤ 65535 := by
  simp [Lit.wf, IntKind.has, IntKind.min, IntKind.max, IntKind.signed, IntKind.bits] at h; omega
theorem wf_u8 {n : Int} (h : (Lit.int .u8 n).wf = true) : 0 ≤ n ∧ n ≤ 255 := by
  simp [Lit.wf, IntKind.has, IntKind.min, IntKind.max, IntKind.signed, IntKind.bits] at h; omega
theorem slice_of_cells {v : Value} {a : Option Addr} {len cap : Nat} (h : v.cells.toList = [.slice a len cap]) {P : Program} {t e : TypeId} {w : World} {r : Reach} {b : Nat} (ht : P.underlying t = some (.slice e)) (hk : Value.okWide P w r b t v) : v = .slice a len cap := by
  obtain ⟨a', l', c', rfl⟩ := okWide_slice ht hk
  simpa [Value.cells] using h
theorem two {l : List Value} (h : l.length = 2) : ∃ a b, l = [a, b] := by
  match l, h with
  | [a, b], _ => exact ⟨a, b, rfl⟩

theorem never_rd {base : Nat} {w : World} (v0 v1 v2 : Value) (k0 : Value.okWide Try.prog w .any base 52 v0) (k1 : Value.okWide Try.prog w .any base 52 v1) (k2 : Value.okWide Try.prog w .any base 53 v2)
    (r0 : Rd Try.prog w 52 v0.cells.toList) (r1 : Rd Try.prog w 52 v1.cells.toList) (r2 : Rd Try.prog w 53 v2.cells.toList) :
    Calls Try.prog 5 #[v0, v1, v2] w fun e w' => e = .returned (.bool true) ∧ More w w' := by
  obtain ⟨s, rfl, ws⟩ := Rd.one_int Try.underlying52 k0 r0
  obtain ⟨r, rfl, wr⟩ := Rd.one_int Try.underlying52 k1 r1
  obtain ⟨s1, s2⟩ := wf_u16 ws
  obtain ⟨q1, q2⟩ := wf_u16 wr
  have c2 : Try.prog.cellsOf 54 = 2 := by kernel_rfl
  have c1 : Try.prog.cellsOf 5 = 1 := by kernel_rfl
  rcases r2.slice Try.underlying53 (by rw [c2]; decide) with ⟨a, cap, hv, _⟩ | ⟨b, off, len, cap, hv, h0, hl, hm, hb, hcells⟩
  · obtain rfl := slice_of_cells hv Try.underlying53 k2
    exact never_none s r s1 s2 q1 q2 a cap w
  · obtain rfl := slice_of_cells hv Try.underlying53 k2
    by_cases h40 : 40 < len
    · exact never_long s r len cap _ w h40
    rw [c2] at hcells
    have key : ∀ i, ∃ x y : Int, i < len → (w.cell? ⟨b, off + i * 2, none⟩ = some (.int .u8 x) ∧ 0 ≤ x ∧ x ≤ 255) ∧ (w.cell? ⟨b, off + i * 2 + 1, none⟩ = some (.int .u8 y) ∧ 0 ≤ y ∧ y ≤ 255) := fun i => by
      by_cases hi : i < len
      · obtain ⟨cs', hlen, hr, hc⟩ := hcells i hi
        obtain ⟨u, v, rfl⟩ := two hlen
        obtain ⟨_, ha⟩ := hr.array Try.underlying54
        obtain ⟨x, ex, wx⟩ := (ha 0 (by decide)).int Try.underlying5
        obtain ⟨y, ey, wy⟩ := (ha 1 (by decide)).int Try.underlying5
        simp [c1] at ex ey
        have g0 := hc 0 (by decide)
        have g1 := hc 1 (by decide)
        simp [ex, ey] at g0 g1
        exact ⟨x, y, fun _ => ⟨⟨g0, wf_u8 wx⟩, ⟨by rw [Nat.add_assoc]; exact g1, wf_u8 wy⟩⟩⟩
      · exact ⟨0, 0, fun h => absurd h hi⟩
    obtain ⟨f0, hf0⟩ := Classical.axiomOfChoice key
    obtain ⟨f1, hf1⟩ := Classical.axiomOfChoice hf0
    exact never_walk s r s1 s2 q1 q2 len cap b off f0 f1 w hb (by omega) (fun i hi => (hf1 i hi).1) (fun i hi => (hf1 i hi).2)

set_option maxRecDepth 100000 in
theorem liftedQuotaNever (os : Os) (started : os.Started) (H : Type) (enc : TypeId × Value → H) :
    ReturnsInHanded {} Try.checked os 5 .any (Rows.quotaNeverSpec.pre6 enc Try.prog Try.f5 Rows.quotaNeverRow.domain false) (Rows.quotaNeverSpec.post enc Try.prog Try.f5 false true false false) := by
  refine returnsInHanded_of_change (C := Try.checked) own started (by kernel_rfl) Try.func5
    (ChangeSpec.witness6 (enc := enc) (C := Try.checked) false ⟨#[], #[.int .u16 0, .int .u16 0, .slice none 0 0], []⟩ 8 (by kernel_rfl) (by kernel_rfl) (by kernel_rfl) (by kernel_rfl)) ?_
  intro W base args ds gs before hval0 hW hcnd _
  have hval : ∀ (j : Nat) t v, Try.f5.params[j]? = some t → args[j]? = some v → Value.okWide Try.prog W .any base t v := hval0
  have hW' := hW
  obtain ⟨p, q, hA0, hV, rfl, hfz, hnd⟩ := hW
  have hA : DataW.TrodAll enc Try.prog W 0 (fun _ => true) true Try.f5.params.toList args.toList ds p := hA0
  rw [Try.params5] at hA hval
  obtain ⟨v0, vs0, d0, ds0, p0, q0, hargs, rfl, rfl, h0, r0⟩ := trodAll_cons hA
  obtain ⟨v1, vs1, d1, ds1, p1, q1, rfl, rfl, rfl, h1, r1⟩ := trodAll_cons r0
  obtain ⟨v2, vs2, d2, ds2, p2, q2, rfl, rfl, rfl, h2, r2⟩ := trodAll_cons r1
  obtain ⟨rfl, rfl, rfl⟩ := trodAll_nil r2
  obtain rfl : args = #[v0, v1, v2] := by cases args; simp_all
  obtain ⟨rfl, rfl⟩ := trodVars_none hV
  have lt0 : ∀ x ∈ p0, x.block < W.heap.size := by obtain ⟨m, hm⟩ := h0; exact DataW.trod_lt m _ _ _ hm
  have rd0 : Rd Try.prog W 52 v0.cells.toList := by obtain ⟨m, hm⟩ := h0; exact ⟨H, enc, m, _, hm⟩
  have lt1 : ∀ x ∈ p1, x.block < W.heap.size := by obtain ⟨m, hm⟩ := h1; exact DataW.trod_lt m _ _ _ hm
  have rd1 : Rd Try.prog W 52 v1.cells.toList := by obtain ⟨m, hm⟩ := h1; exact ⟨H, enc, m, _, hm⟩
  have lt2 : ∀ x ∈ p2, x.block < W.heap.size := by obtain ⟨m, hm⟩ := h2; exact DataW.trod_lt m _ _ _ hm
  have rd2 : Rd Try.prog W 53 v2.cells.toList := by obtain ⟨m, hm⟩ := h2; exact ⟨H, enc, m, _, hm⟩
  clear hA0 hval0
  refine (never_rd v0 v1 v2 (hval 0 52 v0 rfl rfl) (hval 1 52 v1 rfl rfl) (hval 2 53 v2 rfl rfl) rd0 rd1 rd2).mono fun e W' ⟨he, hmore⟩ => ?_
  subst he
  have bel := hmore.below
  exact ⟨_, rfl, _, _, _, [], _, [], hW', trodAll_mk1 (shut_bool Try.underlying4 _), (trodAll_cons_mk (Below.trod laidOut (by kernel_rfl) (of_decide_eq_true (by kernel_rfl)) h0 bel lt0) (trodAll_cons_mk (Below.trod laidOut (by kernel_rfl) (of_decide_eq_true (by kernel_rfl)) h1 bel lt1) (trodAll_cons_mk (Below.trod laidOut (by kernel_rfl) (of_decide_eq_true (by kernel_rfl)) h2 bel lt2) trodAll_mk0))), rfl, bel.frame _, fun h => by cases h⟩

theorem overQuotaNever : Rows.quotaNeverRow.holds Try.pinned (OpenSpec.ofChange Rows.quotaNeverSpec) :=
  OpenClaim.holds_of_wide 5 Try.f5 rfl rfl rfl rfl rfl rfl rfl ⟨rfl, rfl, rfl, rfl, rfl⟩ rfl rfl rfl rfl rfl (by kernel_rfl) Try.func5 (by kernel_rfl)
    (of_decide_eq_true (by kernel_rfl)) (by unfold Func.isWrapper; first | (rw [if_pos (by decide +kernel)]; kernel_rfl) | (rw [if_neg (by decide +kernel)]; exact ⟨rfl, rfl⟩))
    (fun os started H enc _ => liftedQuotaNever os started H enc)

/-- THE STATEMENT. -/
theorem provedQuotaNever : Rows.QuotaNeverSaid := overQuotaNever
#print axioms provedQuotaNever
end Go.Proofs.Ytlahfjnfidhleaa
