/- What came in: bytes, records, batches. -/
import Derived.Test.YtejokhgabcldhaaDoorMA
import Derived.Test.YtejokhgabcldhaaDoorNP
namespace Go.Proofs.YtejokhgabcldhaaDoor
open Go.ChangeShapes Go.WideShapes Go.ChangeAt Go.RowKit
set_option linter.unusedVariables false
set_option linter.unusedSimpArgs false

theorem cells_of : Tryd.prog.cellsOf 3 = 1 ∧ Tryd.prog.cellsOf 9 = 1 ∧ Tryd.prog.cellsOf 4 = 1 ∧ Tryd.prog.cellsOf 5 = 1 ∧ Tryd.prog.cellsOf 49 = 1 ∧ Tryd.prog.cellsOf 33 = 1 ∧ Tryd.prog.cellsOf 71 = 6 ∧ Tryd.prog.cellsOf 35 = 6 ∧ True := by
  refine ⟨?_, ?_, ?_, ?_, ?_, ?_, ?_, ?_, trivial⟩ <;> kernel_rfl
theorem i64_wf {n : Int} (h : (Lit.int .i64 n).wf = true) : I64 n := by
  simp only [Lit.wf, Bool.and_eq_true, decide_eq_true_eq] at h
  exact h
theorem u8_wf {n : Int} (h : (Lit.int .u8 n).wf = true) : 0 ≤ n ∧ n < 256 := by
  simp only [Lit.wf, Bool.and_eq_true, decide_eq_true_eq] at h
  have h2 : n ≤ 255 := h.2
  exact ⟨h.1, by omega⟩
theorem rows_rd {α : Type} [Inhabited α] {w : World} {t e : TypeId} {cs : List Value} {size : Nat} {cells : α → List Value} {p : α → Prop} (ht : Tryd.prog.underlying t = some (.slice e)) (hsz : Tryd.prog.cellsOf e = size) (hpos : 0 < size) (hlen : ∀ x, (cells x).length = size)
    (hel : ∀ cs, Rd Tryd.prog w e cs → ∃ x : α, cs = cells x ∧ p x) (h : Rd Tryd.prog w t cs) : ∃ (a : Option Addr) (cap : Nat) (l : List α), cs = [.slice a l.length cap] ∧ RowAt cells size w a l ∧ (∀ x ∈ l, p x) ∧ l.length ≤ cap ∧ cap ≤ maxLen := by
  rcases h.slice ht (by omega) with ⟨a, cap, rfl, hm⟩ | ⟨b, off, len, cap, rfl, h0, hl, hm, hb, hcells⟩
  · exact ⟨a, cap, [], rfl, RowAt.nil _, fun x hx => by simp at hx, Nat.zero_le _, hm⟩
  · rw [hsz] at hcells
    have key : ∀ k, ∃ x : α, k < len → p x ∧ ∀ j, j < size → w.cell? ⟨b, off + (k * size + j), none⟩ = (cells x)[j]? := fun k => by
      by_cases hk : k < len
      · obtain ⟨cs', _, hr, hc⟩ := hcells k hk
        obtain ⟨x, rfl, hp⟩ := hel cs' hr
        exact ⟨x, fun _ => ⟨hp, hc⟩⟩
      · exact ⟨default, fun h => absurd h hk⟩
    obtain ⟨f, hf⟩ := Classical.axiomOfChoice key
    have hr := rdrow_of_fn cells size hlen hpos (cap := cap) f hb (fun k hk => (hf k hk).2)
    have hll : ((List.range len).map f).length = len := by simp
    refine ⟨some ⟨b, off, none⟩, cap, (List.range len).map f, by rw [hll], RowAt.of_rd (cap := cap) ?_, ?_, by rw [hll]; exact hl, hm⟩
    · rw [hll] at hr ⊢; exact hr
    · intro x hx
      obtain ⟨k, hk, rfl⟩ := List.mem_map.1 hx
      exact (hf k (by simpa using hk)).1
theorem flat_one (l : List UInt8) : l.flatMap (fun x => [Value.int .u8 x.toNat]) = l.map (fun b => Value.int .u8 b.toNat) := by
  induction l with
  | nil => rfl
  | cons x l ih => rw [List.flatMap_cons, List.map_cons, ih]; rfl
theorem seg {α : Type} (cs : List α) (k m : Nat) : cs.drop k = (cs.drop k).take m ++ cs.drop (k + m) := by
  rw [← List.drop_drop]; exact (List.take_append_drop m _).symm
theorem byte_rd {w : World} {cs : List Value} (h : Rd Tryd.prog w 5 cs) : ∃ x : UInt8, cs = [.int .u8 x.toNat] := by
  obtain ⟨n, rfl, hw⟩ := h.int Tryd.underlying5
  obtain ⟨h1, h2⟩ := u8_wf hw
  refine ⟨UInt8.ofNat n.toNat, ?_⟩
  rw [u8_toNat _ (by omega), Int.toNat_of_nonneg h1]
theorem bytes_rd {w : World} {cs : List Value} (h : Rd Tryd.prog w 49 cs) : ∃ (a : Option Addr) (cap : Nat) (l : List UInt8), cs = [.slice a l.length cap] ∧ RB w (.slice a l.length cap) l := by
  obtain ⟨a, cap, l, rfl, hr, _, h1, h2⟩ := rows_rd (cells := fun x : UInt8 => [Value.int .u8 x.toNat]) (size := 1) (p := fun _ => True) Tryd.underlying49 cells_of.2.2.2.1 (by decide) (fun _ => rfl) (fun cs hcs => by obtain ⟨x, hx⟩ := byte_rd hcs; exact ⟨x, hx, trivial⟩) h
  refine ⟨a, cap, l, rfl, a, cap, rfl, h1, h2, fun hne => ?_⟩
  obtain ⟨b, off, ha, hb, hc⟩ := hr.out hne
  refine ⟨b, off, ha, hb, fun i hi => ?_⟩
  rw [hc i (by omega)]
  rw [flat_one]; rfl
theorem str_ex (s : ByteArray) : ∃ l : List UInt8, s = str l ∧ l.length = s.size := ⟨s.data.toList, (str_of s).symm, by simp⟩
theorem rec_rd {w : World} {cs : List Value} (h : Rd Tryd.prog w 71 cs) : ∃ x : Rec, cs = recCells x ∧ x.wf ∧ x.key.length ≤ maxLen ∧ x.value.length ≤ maxLen := by
  obtain ⟨ci, cst, cb, _, _, _, cr, _⟩ := cells_of
  obtain ⟨hl, hf⟩ := h.struct Tryd.underlying71
  rw [cr] at hl
  obtain ⟨n0, e0, w0⟩ := (hf 0 _ rfl).int Tryd.underlying3
  obtain ⟨n1, e1, w1⟩ := (hf 1 _ rfl).int Tryd.underlying3
  obtain ⟨b2, e2⟩ := (hf 2 _ rfl).bool Tryd.underlying4
  obtain ⟨s3, e3, m3⟩ := (hf 3 _ rfl).string Tryd.underlying9
  obtain ⟨b4, e4⟩ := (hf 4 _ rfl).bool Tryd.underlying4
  obtain ⟨s5, e5, m5⟩ := (hf 5 _ rfl).string Tryd.underlying9
  obtain ⟨l3, rfl, g3'⟩ := str_ex s3
  obtain ⟨l5, rfl, g5'⟩ := str_ex s5
  have e0 : (cs.drop 0).take (Tryd.prog.cellsOf 3) = _ := e0
  rw [ci] at e0
  have e1 : (cs.drop 1).take (Tryd.prog.cellsOf 3) = _ := e1
  rw [ci] at e1
  have e2 : (cs.drop 2).take (Tryd.prog.cellsOf 4) = _ := e2
  rw [cb] at e2
  have e3 : (cs.drop 3).take (Tryd.prog.cellsOf 9) = _ := e3
  rw [cst] at e3
  have e4 : (cs.drop 4).take (Tryd.prog.cellsOf 4) = _ := e4
  rw [cb] at e4
  have e5 : (cs.drop 5).take (Tryd.prog.cellsOf 9) = _ := e5
  rw [cst] at e5
  have g0 := seg cs 0 1
  rw [e0] at g0
  have g1 := seg cs 1 1
  rw [e1] at g1
  have g2 := seg cs 2 1
  rw [e2] at g2
  have g3 := seg cs 3 1
  rw [e3] at g3
  have g4 := seg cs 4 1
  rw [e4] at g4
  have g5 := seg cs 5 1
  rw [e5] at g5
  have gz : cs.drop 6 = [] := List.drop_eq_nil_of_le (by omega)
  have hcs : cs = _ := (List.drop_zero (l := cs)).symm.trans g0
  simp only [Nat.zero_add, Nat.reduceAdd] at g0 g1 g2 g3 g4 g5 hcs
  rw [g1, g2, g3, g4, g5, gz] at hcs
  exact ⟨⟨n0, n1, b2, l3, b4, l5⟩, hcs, ⟨i64_wf w0, i64_wf w1⟩, by rw [g3']; exact m3, by rw [g5']; exact m5⟩
/-- Records that came in. -/
theorem recs_rd {w : World} {cs : List Value} (h : Rd Tryd.prog w 33 cs) : ∃ (a : Option Addr) (cap : Nat) (l : List Rec), cs = [.slice a l.length cap] ∧ RecsAt w a l ∧ (∀ x ∈ l, x.wf) ∧ l.length ≤ maxLen := by
  obtain ⟨a, cap, l, h1, h2, h3, h4, h5⟩ := rows_rd (cells := recCells) (size := 6) (p := fun x => x.wf) Tryd.underlying33 cells_of.2.2.2.2.2.2.1 (by decide) recCells_len (fun cs hcs => by obtain ⟨x, hx, hw, _⟩ := rec_rd hcs; exact ⟨x, hx, hw⟩) h
  exact ⟨a, cap, l, h1, h2, h3, Nat.le_trans h4 h5⟩
def batCells (b : Bat) (a : Option Addr) (cap : Nat) : List Value := [.int .i64 b.base, .int .i64 b.count, .int .i64 b.producer, .int .i64 b.epoch, .int .i64 b.seq, .slice a b.recs.length cap]
theorem bat_rd {w : World} {cs : List Value} (h : Rd Tryd.prog w 35 cs) : ∃ (b : Bat) (a : Option Addr) (cap : Nat), cs = batCells b a cap ∧ RecsAt w a b.recs ∧ b.wf ∧ (∀ x ∈ b.recs, x.wf) ∧ b.recs.length ≤ maxLen := by
  obtain ⟨ci, cst, cb, _, _, crs, cr, cbt, _⟩ := cells_of
  obtain ⟨hl, hf⟩ := h.struct Tryd.underlying35
  rw [cbt] at hl
  obtain ⟨n0, e0, w0⟩ := (hf 0 _ rfl).int Tryd.underlying3
  obtain ⟨n1, e1, w1⟩ := (hf 1 _ rfl).int Tryd.underlying3
  obtain ⟨n2, e2, w2⟩ := (hf 2 _ rfl).int Tryd.underlying3
  obtain ⟨n3, e3, w3⟩ := (hf 3 _ rfl).int Tryd.underlying3
  obtain ⟨n4, e4, w4⟩ := (hf 4 _ rfl).int Tryd.underlying3
  obtain ⟨a, cap, l, e5, hr, hw, hm⟩ := recs_rd (hf 5 _ rfl)
  have e0 : (cs.drop 0).take (Tryd.prog.cellsOf 3) = _ := e0
  rw [ci] at e0
  have e1 : (cs.drop 1).take (Tryd.prog.cellsOf 3) = _ := e1
  rw [ci] at e1
  have e2 : (cs.drop 2).take (Tryd.prog.cellsOf 3) = _ := e2
  rw [ci] at e2
  have e3 : (cs.drop 3).take (Tryd.prog.cellsOf 3) = _ := e3
  rw [ci] at e3
  have e4 : (cs.drop 4).take (Tryd.prog.cellsOf 3) = _ := e4
  rw [ci] at e4
  have e5 : (cs.drop 5).take (Tryd.prog.cellsOf 33) = _ := e5
  rw [crs] at e5
  have g0 := seg cs 0 1
  rw [e0] at g0
  have g1 := seg cs 1 1
  rw [e1] at g1
  have g2 := seg cs 2 1
  rw [e2] at g2
  have g3 := seg cs 3 1
  rw [e3] at g3
  have g4 := seg cs 4 1
  rw [e4] at g4
  have g5 := seg cs 5 1
  rw [e5] at g5
  have gz : cs.drop 6 = [] := List.drop_eq_nil_of_le (by omega)
  have hcs : cs = _ := (List.drop_zero (l := cs)).symm.trans g0
  simp only [Nat.zero_add, Nat.reduceAdd] at g0 g1 g2 g3 g4 g5 hcs
  rw [g1, g2, g3, g4, g5, gz] at hcs
  exact ⟨⟨n0, n1, n2, n3, n4, l⟩, a, cap, hcs, hr, ⟨i64_wf w0, i64_wf w1, i64_wf w2, i64_wf w3, i64_wf w4⟩, hw, hm⟩

/-- Batches that came in. -/
theorem bats_rd {w : World} {cs : List Value} (h : Rd Tryd.prog w 27 cs) : ∃ (ad : Option Addr) (cap : Nat) (l : List Btm), cs = [.slice ad l.length cap] ∧ BatsAt w ad l ∧ (∀ x ∈ l, x.b.recs.length ≤ maxLen) ∧ l.length ≤ maxLen := by
  obtain ⟨a, cap, l, h1, h2, h3, h4, h5⟩ := rows_rd (cells := btmCells) (size := 6) (p := fun x => RecsAt w x.a x.b.recs ∧ x.b.recs.length ≤ maxLen) Tryd.underlying27 cells_of.2.2.2.2.2.2.2.1 (by decide) btmCells_len (fun cs hcs => by obtain ⟨b, a, cap, hx, hr, _, _, hm⟩ := bat_rd hcs; exact ⟨⟨b, a, cap⟩, hx, hr, hm⟩) h
  exact ⟨a, cap, l, h1, ⟨h2, fun x hx => (h3 x hx).1⟩, fun x hx => (h3 x hx).2, Nat.le_trans h4 h5⟩
end Go.Proofs.YtejokhgabcldhaaDoor
