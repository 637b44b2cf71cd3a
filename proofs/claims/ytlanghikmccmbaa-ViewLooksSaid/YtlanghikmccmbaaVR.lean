/- What came in: bytes, views. -/
import Derived.Test.YtlanghikmccmbaaMA
import Derived.Test.YtlanghikmccmbaaVK
namespace Go.Proofs.Ytlanghikmccmbaa
open Go.ChangeShapes Go.WideShapes Go.ChangeAt Go.RowKit
set_option linter.unusedVariables false
set_option linter.unusedSimpArgs false
set_option maxRecDepth 100000
theorem cells_of : Try.prog.cellsOf 3 = 1 ∧ Try.prog.cellsOf 9 = 1 ∧ Try.prog.cellsOf 5 = 1 ∧ Try.prog.cellsOf 5 = 1 ∧ Try.prog.cellsOf 26 = 4 ∧ Try.prog.cellsOf 24 = 2 ∧ Try.prog.cellsOf 22 = 1 := by
  refine ⟨?_, ?_, ?_, ?_, ?_, ?_, ?_⟩ <;> kernel_rfl
theorem i64_wf {n : Int} (h : (Lit.int .i64 n).wf = true) : I64 n := by
  simp only [Lit.wf, Bool.and_eq_true, decide_eq_true_eq] at h
  exact h
theorem u8_wf {n : Int} (h : (Lit.int .u8 n).wf = true) : 0 ≤ n ∧ n < 256 := by
  simp only [Lit.wf, Bool.and_eq_true, decide_eq_true_eq] at h
  have h2 : n ≤ 255 := h.2
  exact ⟨h.1, by omega⟩
theorem rows_rd {α : Type} [Inhabited α] {w : World} {t e : TypeId} {cs : List Value} {size : Nat} {cells : α → List Value} {p : α → Prop} (ht : Try.prog.underlying t = some (.slice e)) (hsz : Try.prog.cellsOf e = size) (hpos : 0 < size) (hlen : ∀ x, (cells x).length = size)
    (hel : ∀ cs, Rd Try.prog w e cs → ∃ x : α, cs = cells x ∧ p x) (h : Rd Try.prog w t cs) : ∃ (a : Option Addr) (cap : Nat) (l : List α), cs = [.slice a l.length cap] ∧ RowAt cells size w a l ∧ (∀ x ∈ l, p x) ∧ l.length ≤ cap ∧ cap ≤ maxLen := by
  rcases h.slice ht (by omega) with ⟨a, cap, rfl, hm⟩ | ⟨b, off, len, cap, rfl, h0, hl, hm, hb, hcells⟩
  · exact ⟨a, cap, [], rfl, RowAt.nil _, fun x hx => by simp at hx, Nat.zero_le _, hm⟩
  · rw [hsz] at hcells
    have key : ∀ k, ∃ x : α, k < len → p x ∧ ∀ j, j < size → w.cell? ⟨b, off + (k * size + j), none⟩ = (cells x)[j]? := fun k => by
      by_cases hk : k < len
      · obtain ⟨cs', _, hr, hc⟩ := hcells k hk
        obtain ⟨x, rfl, hp⟩ := hel cs' hr
        exact ⟨x, fun _ => ⟨hp, hc⟩⟩
      · exact ⟨default, fun h => absurd h hk⟩
    obtain ⟨f, hf⟩ := Classical.axiomOfChoice key
    have hr := rdrow_of_fn cells size hlen hpos (cap := cap) f hb (fun k hk => (hf k hk).2)
    have hll : ((List.range len).map f).length = len := by simp
    refine ⟨some ⟨b, off, none⟩, cap, (List.range len).map f, by rw [hll], RowAt.of_rd (cap := cap) ?_, ?_, by rw [hll]; exact hl, hm⟩
    · rw [hll] at hr ⊢; exact hr
    · intro x hx
      obtain ⟨k, hk, rfl⟩ := List.mem_map.1 hx
      exact (hf k (by simpa using hk)).1
theorem flat_one (l : List UInt8) : l.flatMap (fun x => [Value.int .u8 x.toNat]) = l.map (fun b => Value.int .u8 b.toNat) := by
  induction l with
  | nil => rfl
  | cons x l ih => rw [List.flatMap_cons, List.map_cons, ih]; rfl
theorem seg {α : Type} (cs : List α) (k m : Nat) : cs.drop k = (cs.drop k).take m ++ cs.drop (k + m) := by
  rw [← List.drop_drop]; exact (List.take_append_drop m _).symm
theorem byte_rd {w : World} {cs : List Value} (h : Rd Try.prog w 5 cs) : ∃ x : UInt8, cs = [.int .u8 x.toNat] := by
  obtain ⟨n, rfl, hw⟩ := h.int Try.underlying5
  obtain ⟨h1, h2⟩ := u8_wf hw
  refine ⟨UInt8.ofNat n.toNat, ?_⟩
  rw [u8_toNat _ (by omega), Int.toNat_of_nonneg h1]
theorem bytes_rd {w : World} {cs : List Value} (h : Rd Try.prog w 48 cs) : ∃ (a : Option Addr) (cap : Nat) (l : List UInt8), cs = [.slice a l.length cap] ∧ RB w (.slice a l.length cap) l := by
  obtain ⟨a, cap, l, rfl, hr, _, h1, h2⟩ := rows_rd (cells := fun x : UInt8 => [Value.int .u8 x.toNat]) (size := 1) (p := fun _ => True) Try.underlying48 cells_of.2.2.2.1 (by decide) (fun _ => rfl) (fun cs hcs => by obtain ⟨x, hx⟩ := byte_rd hcs; exact ⟨x, hx, trivial⟩) h
  refine ⟨a, cap, l, rfl, a, cap, rfl, h1, h2, fun hne => ?_⟩
  obtain ⟨b, off, ha, hb, hc⟩ := hr.out hne
  refine ⟨b, off, ha, hb, fun i hi => ?_⟩
  rw [hc i (by omega)]
  rw [flat_one]; rfl
theorem str_ex (s : ByteArray) : ∃ l : List UInt8, s = str l ∧ l.length = s.size := ⟨s.data.toList, (str_of s).symm, by simp⟩
theorem okWide_agg {P : Program} {w : World} {r : Reach} {b : Nat} {t : TypeId} {fs : Array Field} {v : Value} (ht : P.underlying t = some (.struct fs)) (h : Value.okWide P w r b t v) : ∃ cs, v = .agg cs ∧ cs.size = P.cellsOf t := by
  simp only [Value.okWide, ht] at h
  obtain ⟨cs, h1, h2, _⟩ := h
  exact ⟨cs, h1, h2⟩

theorem vrow_rd {w : World} {cs : List Value} (h : Rd Try.prog w 26 cs) : ∃ x : VRow, cs = vrCells x ∧ (x.key.length ≤ maxLen ∧ x.value.length ≤ maxLen) ∧ I64 x.offset ∧ I64 x.time := by
  obtain ⟨ci, cst, _, _, cr, _⟩ := cells_of
  obtain ⟨hl, hf⟩ := h.struct Try.underlying26
  rw [cr] at hl
  obtain ⟨s0, e0, m0⟩ := (hf 0 _ rfl).string Try.underlying9
  obtain ⟨s1, e1, m1⟩ := (hf 1 _ rfl).string Try.underlying9
  obtain ⟨n2, e2, w2⟩ := (hf 2 _ rfl).int Try.underlying3
  obtain ⟨n3, e3, w3⟩ := (hf 3 _ rfl).int Try.underlying3
  obtain ⟨l0, rfl, g0'⟩ := str_ex s0
  obtain ⟨l1, rfl, g1'⟩ := str_ex s1
  have e0 : (cs.drop 0).take (Try.prog.cellsOf 9) = _ := e0
  rw [cst] at e0
  have e1 : (cs.drop 1).take (Try.prog.cellsOf 9) = _ := e1
  rw [cst] at e1
  have e2 : (cs.drop 2).take (Try.prog.cellsOf 3) = _ := e2
  rw [ci] at e2
  have e3 : (cs.drop 3).take (Try.prog.cellsOf 3) = _ := e3
  rw [ci] at e3
  have g0 := seg cs 0 1
  rw [e0] at g0
  have g1 := seg cs 1 1
  rw [e1] at g1
  have g2 := seg cs 2 1
  rw [e2] at g2
  have g3 := seg cs 3 1
  rw [e3] at g3
  have gz : cs.drop 4 = [] := List.drop_eq_nil_of_le (by omega)
  have hcs : cs = _ := (List.drop_zero (l := cs)).symm.trans g0
  simp only [Nat.zero_add, Nat.reduceAdd] at g0 g1 g2 g3 hcs
  rw [g1, g2, g3, gz] at hcs
  exact ⟨⟨l0, l1, n2, n3⟩, hcs, ⟨by rw [g0']; exact m0, by rw [g1']; exact m1⟩, i64_wf w2, i64_wf w3⟩
theorem vrows_rd {w : World} {cs : List Value} (h : Rd Try.prog w 22 cs) : ∃ (a : Option Addr) (cap : Nat) (l : List VRow), cs = [.slice a l.length cap] ∧ VRowsAt w a l ∧ (∀ x ∈ l, (x.key.length ≤ maxLen ∧ x.value.length ≤ maxLen) ∧ I64 x.offset ∧ I64 x.time) ∧ l.length ≤ maxLen := by
  obtain ⟨a, cap, l, h1, h2, h3, h4, h5⟩ := rows_rd (cells := vrCells) (size := 4) (p := fun x => (x.key.length ≤ maxLen ∧ x.value.length ≤ maxLen) ∧ I64 x.offset ∧ I64 x.time) Try.underlying22 cells_of.2.2.2.2.1 (by decide) vrCells_len (fun cs hcs => vrow_rd hcs) h
  exact ⟨a, cap, l, h1, h2, h3, Nat.le_trans h4 h5⟩
theorem two {α : Type} {l : List α} (h : l.length = 2) : ∃ a b, l = [a, b] := by
  match l, h with
  | [a, b], _ => exact ⟨a, b, rfl⟩
theorem view_rd {w : World} {r : Reach} {b : Nat} {v : Value} (hk : Value.okWide Try.prog w r b 24 v) (h : Rd Try.prog w 24 v.cells.toList) :
    ∃ (x : Vw) (a : Option Addr) (cap : Nat), v = .agg #[.int .i64 x.next, .slice a x.rows.length cap] ∧ VRowsAt w a x.rows ∧ (∀ y ∈ x.rows, (y.key.length ≤ maxLen ∧ y.value.length ≤ maxLen) ∧ I64 y.offset ∧ I64 y.time) ∧ x.rows.length ≤ maxLen ∧ I64 x.next := by
  obtain ⟨ci, _, _, _, _, cv, crs⟩ := cells_of
  obtain ⟨cs, rfl, hsz⟩ := okWide_agg Try.underlying24 hk
  rw [cv] at hsz
  obtain ⟨_, hf⟩ := h.struct Try.underlying24
  obtain ⟨c0, c1, hcs⟩ := two (l := cs.toList) (by simpa using hsz)
  have ecs : cs = #[c0, c1] := by apply Array.toList_inj.1; rw [hcs]
  subst ecs
  obtain ⟨n0, e0, w0⟩ := (hf 0 _ rfl).int Try.underlying3
  obtain ⟨a, cap, l, e1, h1, h2, h3⟩ := vrows_rd (hf 1 _ rfl)
  have f0 : ((Value.agg #[c0, c1]).cells.toList.drop 0).take (Try.prog.cellsOf 3) = _ := e0
  rw [ci] at f0
  have f1 : ((Value.agg #[c0, c1]).cells.toList.drop 1).take (Try.prog.cellsOf 22) = _ := e1
  rw [crs] at f1
  simp [Value.cells] at f0 f1
  subst f0 f1
  exact ⟨⟨n0, l⟩, a, cap, rfl, h1, h2, h3, i64_wf w0⟩
end Go.Proofs.Ytlanghikmccmbaa
