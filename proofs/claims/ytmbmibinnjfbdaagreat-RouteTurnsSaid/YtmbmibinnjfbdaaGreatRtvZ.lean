/- The statement RouteTurns, proved: of every list of records, every two numbers and every cut the law answers true. No condition. -/
import Derived.Test.YtmbmibinnjfbdaaGreatMA
import Derived.Test.YtmbmibinnjfbdaaGreatRU
import Derived.Test.YtmbmibinnjfbdaaGreatRO
import Derived.Test.YtmbmibinnjfbdaaGreatRQ
import Derived.Test.YtmbmibinnjfbdaaGreatEO
namespace Go.Proofs.YtmbmibinnjfbdaaGreat
open Go.ChangeShapes Go.WideShapes Go.ChangeAt Go.RowKit
set_option linter.unusedVariables false
set_option linter.unusedSimpArgs false
set_option maxRecDepth 100000
theorem cells_of : Tryz.prog.cellsOf 3 = 1 ∧ Tryz.prog.cellsOf 9 = 1 ∧ Tryz.prog.cellsOf 4 = 1 ∧ True ∧ True ∧ True ∧ Tryz.prog.cellsOf 30 = 6 ∧ True := by
  refine ⟨?_, ?_, ?_, trivial, trivial, trivial, ?_, trivial⟩ <;> kernel_rfl
theorem i64_wf {n : Int} (h : (Lit.int .i64 n).wf = true) : I64 n := by
  simp only [Lit.wf, Bool.and_eq_true, decide_eq_true_eq] at h
  exact h
theorem rows_rd {α : Type} [Inhabited α] {w : World} {t e : TypeId} {cs : List Value} {size : Nat} {cells : α → List Value} {p : α → Prop} (ht : Tryz.prog.underlying t = some (.slice e)) (hsz : Tryz.prog.cellsOf e = size) (hpos : 0 < size) (hlen : ∀ x, (cells x).length = size)
    (hel : ∀ cs, Rd Tryz.prog w e cs → ∃ x : α, cs = cells x ∧ p x) (h : Rd Tryz.prog w t cs) : ∃ (a : Option Addr) (cap : Nat) (l : List α), cs = [.slice a l.length cap] ∧ RowAt cells size w a l ∧ (∀ x ∈ l, p x) ∧ l.length ≤ cap ∧ cap ≤ maxLen := by
  rcases h.slice ht (by omega) with ⟨a, cap, rfl, hm⟩ | ⟨b, off, len, cap, rfl, h0, hl, hm, hb, hcells⟩
  · exact ⟨a, cap, [], rfl, RowAt.nil _, fun x hx => by simp at hx, Nat.zero_le _, hm⟩
  · rw [hsz] at hcells
    have key : ∀ k, ∃ x : α, k < len → p x ∧ ∀ j, j < size → w.cell? ⟨b, off + (k * size + j), none⟩ = (cells x)[j]? := fun k => by
      by_cases hk : k < len
      · obtain ⟨cs', _, hr, hc⟩ := hcells k hk
        obtain ⟨x, rfl, hp⟩ := hel cs' hr
        exact ⟨x, fun _ => ⟨hp, hc⟩⟩
      · exact ⟨default, fun h => absurd h hk⟩
    obtain ⟨f, hf⟩ := Classical.axiomOfChoice key
    have hr := rdrow_of_fn cells size hlen hpos (cap := cap) f hb (fun k hk => (hf k hk).2)
    have hll : ((List.range len).map f).length = len := by simp
    refine ⟨some ⟨b, off, none⟩, cap, (List.range len).map f, by rw [hll], RowAt.of_rd (cap := cap) ?_, ?_, by rw [hll]; exact hl, hm⟩
    · rw [hll] at hr ⊢; exact hr
    · intro x hx
      obtain ⟨k, hk, rfl⟩ := List.mem_map.1 hx
      exact (hf k (by simpa using hk)).1
theorem seg {α : Type} (cs : List α) (k m : Nat) : cs.drop k = (cs.drop k).take m ++ cs.drop (k + m) := by
  rw [← List.drop_drop]; exact (List.take_append_drop m _).symm
theorem str_ex (s : ByteArray) : ∃ l : List UInt8, s = str l ∧ l.length = s.size := ⟨s.data.toList, (str_of s).symm, by simp⟩
theorem rec_rd {w : World} {cs : List Value} (h : Rd Tryz.prog w 30 cs) : ∃ x : Rec, cs = recCells x ∧ x.key.length ≤ maxLen ∧ x.value.length ≤ maxLen := by
  obtain ⟨ci, cst, cb, _, _, _, cr, _⟩ := cells_of
  obtain ⟨hl, hf⟩ := h.struct Tryz.underlying30
  rw [cr] at hl
  obtain ⟨n0, e0, w0⟩ := (hf 0 _ rfl).int Tryz.underlying3
  obtain ⟨n1, e1, w1⟩ := (hf 1 _ rfl).int Tryz.underlying3
  obtain ⟨b2, e2⟩ := (hf 2 _ rfl).bool Tryz.underlying4
  obtain ⟨s3, e3, m3⟩ := (hf 3 _ rfl).string Tryz.underlying9
  obtain ⟨b4, e4⟩ := (hf 4 _ rfl).bool Tryz.underlying4
  obtain ⟨s5, e5, m5⟩ := (hf 5 _ rfl).string Tryz.underlying9
  obtain ⟨l3, rfl, g3'⟩ := str_ex s3
  obtain ⟨l5, rfl, g5'⟩ := str_ex s5
  have e0 : (cs.drop 0).take (Tryz.prog.cellsOf 3) = _ := e0
  rw [ci] at e0
  have e1 : (cs.drop 1).take (Tryz.prog.cellsOf 3) = _ := e1
  rw [ci] at e1
  have e2 : (cs.drop 2).take (Tryz.prog.cellsOf 4) = _ := e2
  rw [cb] at e2
  have e3 : (cs.drop 3).take (Tryz.prog.cellsOf 9) = _ := e3
  rw [cst] at e3
  have e4 : (cs.drop 4).take (Tryz.prog.cellsOf 4) = _ := e4
  rw [cb] at e4
  have e5 : (cs.drop 5).take (Tryz.prog.cellsOf 9) = _ := e5
  rw [cst] at e5
  have g0 := seg cs 0 1
  rw [e0] at g0
  have g1 := seg cs 1 1
  rw [e1] at g1
  have g2 := seg cs 2 1
  rw [e2] at g2
  have g3 := seg cs 3 1
  rw [e3] at g3
  have g4 := seg cs 4 1
  rw [e4] at g4
  have g5 := seg cs 5 1
  rw [e5] at g5
  have gz : cs.drop 6 = [] := List.drop_eq_nil_of_le (by omega)
  have hcs : cs = _ := (List.drop_zero (l := cs)).symm.trans g0
  simp only [Nat.zero_add, Nat.reduceAdd] at g0 g1 g2 g3 g4 g5 hcs
  rw [g1, g2, g3, g4, g5, gz] at hcs
  exact ⟨⟨n0, n1, b2, l3, b4, l5⟩, hcs, by rw [g3']; exact m3, by rw [g5']; exact m5⟩

theorem recs_rd2 {w : World} {cs : List Value} (h : Rd Tryz.prog w 22 cs) : ∃ (a : Option Addr) (cap : Nat) (l : List Rec), cs = [.slice a l.length cap] ∧ RecsAt w a l ∧ (∀ x ∈ l, x.key.length ≤ maxLen ∧ x.value.length ≤ maxLen) ∧ l.length ≤ maxLen ∧ l.length ≤ cap := by
  obtain ⟨a, cap, l, h1, h2, h3, h4, h5⟩ := rows_rd (cells := recCells) (size := 6) (p := fun x => x.key.length ≤ maxLen ∧ x.value.length ≤ maxLen) Tryz.underlying22 cells_of.2.2.2.2.2.2.1 (by decide) recCells_len (fun cs hcs => by obtain ⟨x, hx, h1, h2⟩ := rec_rd hcs; exact ⟨x, hx, h1, h2⟩) h
  exact ⟨a, cap, l, h1, h2, h3, Nat.le_trans h4 h5, h4⟩
theorem awake37 (W : World) : Calls Tryz.prog 5 #[] W fun e w' => e = .returned (.bool true) ∧ More W w' := by
  obtain ⟨H, h⟩ := Ev.of_isOk Ev.awake_run
  exact Ev.call_more Ev.follows Ev.fnP_ok 2000 h rfl (fun _ => none) rfl W
theorem cells2 : Tryz.prog.cellsOf 23 = 2 := by kernel_rfl
theorem two {α : Type} {l : List α} (h : l.length = 2) : ∃ a b, l = [a, b] := by
  match l, h with
  | [a, b], _ => exact ⟨a, b, rfl⟩
theorem nat2_rd {w : World} {r : Reach} {b : Nat} {v : Value} (hk : Value.okWide Tryz.prog w r b 23 v) (h : Rd Tryz.prog w 23 v.cells.toList) : ∃ p0 p1, v = .agg #[.int .i64 p0, .int .i64 p1] := by
  obtain ⟨ci, _⟩ := cells_of
  obtain ⟨cs, rfl, hsz⟩ := okWide_array Tryz.underlying23 hk
  obtain ⟨_, hf⟩ := h.array Tryz.underlying23
  rw [cells2] at hsz
  obtain ⟨c0, c1, hcs⟩ := two (l := cs.toList) (by simpa using hsz)
  have ecs : cs = #[c0, c1] := by apply Array.toList_inj.1; rw [hcs]
  subst ecs
  obtain ⟨n0, e0, _⟩ := (hf 0 (by decide)).int Tryz.underlying3
  obtain ⟨n1, e1, _⟩ := (hf 1 (by decide)).int Tryz.underlying3
  simp [Value.cells, ci] at e0 e1
  exact ⟨n0, n1, by rw [e0, e1]⟩
theorem u8_wf {n : Int} (h : (Lit.int .u8 n).wf = true) : 0 ≤ n ∧ n < 256 := by
  simp only [Lit.wf, Bool.and_eq_true, decide_eq_true_eq] at h
  have h2 : n ≤ 255 := h.2
  exact ⟨h.1, by omega⟩
set_option maxRecDepth 100000 in
theorem turns_rd {base : Nat} {w : World} (v0 v1 v2 : Value) (k0 : Value.okWide Tryz.prog w .any base 22 v0) (k1 : Value.okWide Tryz.prog w .any base 23 v1) (k2 : Value.okWide Tryz.prog w .any base 5 v2)
    (r0 : Rd Tryz.prog w 22 v0.cells.toList) (r1 : Rd Tryz.prog w 23 v1.cells.toList) (r2 : Rd Tryz.prog w 5 v2.cells.toList) :
    Calls Tryz.prog 3 #[v0, v1, v2] w fun e w' => e = .returned (.bool true) ∧ More w w' := by
  obtain ⟨a, cap, l, hv, hr, hk, hl, hlc⟩ := recs_rd2 r0
  obtain rfl := slice_of_cells hv Tryz.underlying22 k0
  obtain ⟨n0, n1, rfl⟩ := nat2_rd k1 r1
  obtain ⟨c, rfl, hw⟩ := Rd.one_int Tryz.underlying5 k2 r2
  obtain ⟨hc0, hc1⟩ := u8_wf hw
  exact turns_any awake37 a cap l n0 n1 c w hr hl hlc hk hc0 hc1

set_option maxRecDepth 100000 in
theorem liftedRouteTurns (os : Os) (started : os.Started) (H : Type) (enc : TypeId × Value → H) :
    ReturnsInHanded {} Tryz.checked os 3 .any (Rows.routeTurnsSpec.pre6 enc Tryz.prog Tryz.f3 Rows.routeTurnsRow.domain false) (Rows.routeTurnsSpec.post enc Tryz.prog Tryz.f3 false true false false) := by
  refine returnsInHanded_of_change (C := Tryz.checked) own started (by kernel_rfl) Tryz.func3
    (ChangeSpec.witness6 (enc := enc) (C := Tryz.checked) false ⟨#[], #[.slice none 0 0, .agg #[.int .i64 0, .int .i64 0], .int .u8 0], []⟩ 8 (by kernel_rfl) (by kernel_rfl) (by kernel_rfl) (by kernel_rfl)) ?_
  intro W base args ds gs before hval0 hW hcnd _
  have hval : ∀ (j : Nat) t v, Tryz.f3.params[j]? = some t → args[j]? = some v → Value.okWide Tryz.prog W .any base t v := hval0
  have hW' := hW
  obtain ⟨p, q, hA0, hV, rfl, hfz, hnd⟩ := hW
  have hA : DataW.TrodAll enc Tryz.prog W 0 (fun _ => true) true Tryz.f3.params.toList args.toList ds p := hA0
  rw [Tryz.params3] at hA hval
  obtain ⟨v0, vs0, d0, ds0, p0, q0, hargs, rfl, rfl, h0, r0⟩ := trodAll_cons hA
  obtain ⟨v1, vs1, d1, ds1, p1, q1, rfl, rfl, rfl, h1, r1⟩ := trodAll_cons r0
  obtain ⟨v2, vs2, d2, ds2, p2, q2, rfl, rfl, rfl, h2, r2⟩ := trodAll_cons r1
  obtain ⟨rfl, rfl, rfl⟩ := trodAll_nil r2
  obtain rfl : args = #[v0, v1, v2] := by cases args; simp_all
  obtain ⟨rfl, rfl⟩ := trodVars_none hV
  have lt0 : ∀ x ∈ p0, x.block < W.heap.size := by obtain ⟨m, hm⟩ := h0; exact DataW.trod_lt m _ _ _ hm
  have rd0 : Rd Tryz.prog W 22 v0.cells.toList := by obtain ⟨m, hm⟩ := h0; exact ⟨H, enc, m, _, hm⟩
  have lt1 : ∀ x ∈ p1, x.block < W.heap.size := by obtain ⟨m, hm⟩ := h1; exact DataW.trod_lt m _ _ _ hm
  have rd1 : Rd Tryz.prog W 23 v1.cells.toList := by obtain ⟨m, hm⟩ := h1; exact ⟨H, enc, m, _, hm⟩
  have lt2 : ∀ x ∈ p2, x.block < W.heap.size := by obtain ⟨m, hm⟩ := h2; exact DataW.trod_lt m _ _ _ hm
  have rd2 : Rd Tryz.prog W 5 v2.cells.toList := by obtain ⟨m, hm⟩ := h2; exact ⟨H, enc, m, _, hm⟩
  clear hA0 hval0
  refine (turns_rd v0 v1 v2 (hval 0 22 v0 rfl rfl) (hval 1 23 v1 rfl rfl) (hval 2 5 v2 rfl rfl) rd0 rd1 rd2).mono fun e W' ⟨he, hmore⟩ => ?_
  subst he
  have bel := hmore.below
  exact ⟨_, rfl, _, _, _, [], _, [], hW', trodAll_mk1 (shut_bool Tryz.underlying4 _), (trodAll_cons_mk (Below.trod laidOut (by kernel_rfl) (of_decide_eq_true (by kernel_rfl)) h0 bel lt0) (trodAll_cons_mk (Below.trod laidOut (by kernel_rfl) (of_decide_eq_true (by kernel_rfl)) h1 bel lt1) (trodAll_cons_mk (Below.trod laidOut (by kernel_rfl) (of_decide_eq_true (by kernel_rfl)) h2 bel lt2) trodAll_mk0))), rfl, bel.frame _, fun h => by cases h⟩

theorem overRouteTurns : Rows.routeTurnsRow.holds Tryz.pinned (OpenSpec.ofChange Rows.routeTurnsSpec) :=
  OpenClaim.holds_of_wide 3 Tryz.f3 rfl rfl rfl rfl rfl rfl rfl ⟨rfl, rfl, rfl, rfl, rfl⟩ rfl rfl rfl rfl rfl over_named Tryz.func3 over_closed
    over_inst over_wrap
    (fun os started H enc _ => liftedRouteTurns os started H enc)

/-- THE STATEMENT. -/
theorem provedRouteTurns : Rows.RouteTurnsSaid := overRouteTurns
#print axioms provedRouteTurns
end Go.Proofs.YtmbmibinnjfbdaaGreat
