/- Rows of batches that can be read; LightAll and SameAll. -/
import Derived.Test.YtlanghikmccmbaaME
import Derived.Test.YtlanghikmccmbaaMA
import Derived.Test.YtlanghikmccmbaaMC
import Derived.Lib.SliceRun
import Derived.Maps.Range
import Derived.Maps.RangeWalk
import Derived.Maps.StringElems
import Derived.Shelf.SlSortCmp.WholeK
namespace Go.Proofs.Ytlanghikmccmbaa
open Go.ChangeShapes Go.WideShapes Go.ChangeAt Go.RowKit
set_option linter.unusedVariables false
set_option linter.unusedSimpArgs false

/-- A batch with what it points to. -/
structure Btm where
  b : Bat
  a : Option Addr
  cap : Nat
instance : Inhabited Btm := ⟨⟨Bat.zero, none, 0⟩⟩
def btmCells (x : Btm) : List Value := [.int .i64 x.b.base, .int .i64 x.b.count, .int .i64 x.b.producer, .int .i64 x.b.epoch, .int .i64 x.b.seq, .slice x.a x.b.recs.length x.cap]
theorem btmCells_len (x : Btm) : (btmCells x).length = 6 := rfl
structure BatsAt (w : World) (ad : Option Addr) (l : List Btm) : Prop where
  row : RowAt btmCells 6 w ad l
  each : ∀ x ∈ l, RecsAt w x.a x.b.recs
theorem BatsAt.more {w w' : World} {ad : Option Addr} {l : List Btm} (h : BatsAt w ad l) (hm : More w w') : BatsAt w' ad l := ⟨h.row.more hm, fun x hx => (h.each x hx).more hm⟩
theorem BatsAt.nil (w : World) (ad : Option Addr) : BatsAt w ad [] := ⟨RowAt.nil _, fun x hx => by simp at hx⟩
theorem bats_at {w : World} {ad : Option Addr} {l : List Btm} (h : BatsAt w ad l) (k : Nat) (x : Btm) (hx : l[k]? = some x) : ∃ b off, ad = some ⟨b, off, none⟩ ∧ b < w.heap.size ∧
    w.cell? ⟨b, off + k * 6, none⟩ = some (.int .i64 x.b.base) ∧ w.cell? ⟨b, off + k * 6 + 1, none⟩ = some (.int .i64 x.b.count) ∧ w.cell? ⟨b, off + k * 6 + 2, none⟩ = some (.int .i64 x.b.producer) ∧ w.cell? ⟨b, off + k * 6 + 3, none⟩ = some (.int .i64 x.b.epoch) ∧ w.cell? ⟨b, off + k * 6 + 4, none⟩ = some (.int .i64 x.b.seq) ∧
    w.cell? ⟨b, off + k * 6 + 5, none⟩ = some (.slice x.a x.b.recs.length x.cap) := by
  obtain ⟨b, off, ha, hb, hc⟩ := h.row.at btmCells_len k x hx
  refine ⟨b, off, ha, hb, ?_, ?_, ?_, ?_, ?_, ?_⟩
  · exact hc 0 (by decide)
  · rw [Nat.add_assoc]; exact hc 1 (by decide)
  · rw [Nat.add_assoc]; exact hc 2 (by decide)
  · rw [Nat.add_assoc]; exact hc 3 (by decide)
  · rw [Nat.add_assoc]; exact hc 4 (by decide)
  · rw [Nat.add_assoc]; exact hc 5 (by decide)
/-- Yes, and then p, or no. -/
structure LightRet (w w' : World) (x : Ending) (p : Prop) : Prop where
  out : ∃ b, x = .returned (.bool b) ∧ More w w' ∧ (b = true → p)
set_option maxRecDepth 100000 in
set_option maxHeartbeats 1600000 in
theorem light_bats (ad : Option Addr) (cap : Nat) (l : List Btm) (most : Int) (w : World) (h : BatsAt w ad l) (hf : ∀ x ∈ l, x.b.recs.length ≤ maxLen) (hm : l.length ≤ maxLen) (hmost : most ≤ 1000000) :
    Calls Try.prog 26 #[.slice ad l.length cap, .int .i64 most] w fun x w' => LightRet w w' x ((l.length : Int) ≤ most) := by
  have HA := Lib.hid h
  have HF := Lib.hid hf
  unfold maxLen at hm
  clear h hf
  by_cases hl : most < l.length
  · refine calls_wd ?_
    go_enter Try.func26, Try.ntmps26
    go_wp2
    go_ret
    exact ⟨false, rfl, more_wd _ _ _, fun h => by cases h⟩
  · have hl2 : (l.length : Int) ≤ most := by omega
    refine calls_wd ?_
    go_enter Try.func26, Try.ntmps26
    go_wp2
    go_loopw [5] (fun i wr => ∃ (k : Nat) (m : Ext), k ≤ l.length ∧ i = .int .i64 k ∧ wr = wd w [m.e] m.n) (fun i _ => l.length - (intOf i).toNat)
    case atStart => exact ⟨0, ⟨#[], _⟩, Nat.zero_le _, rfl, by rw [wd_empty]⟩
    case round =>
      obtain ⟨k, m, hk, rfl, rfl⟩ := hrel
      by_cases hlt : k < l.length
      · obtain ⟨x, hx⟩ : ∃ x, l[k]? = some x := ⟨_, List.getElem?_eq_getElem hlt⟩
        obtain ⟨bb, off, rfl, hb, c0, c1, c2, c3, c4, c5⟩ := bats_at HA.out k x hx
        have hmem := List.mem_of_getElem? hx
        have HAT := Lib.hid (HA.out.each x hmem)
        have HLQ := Lib.hid (fun W h => light_bat x.b x.a x.cap W h (HF.out x hmem))
        clear hx hmem
        obtain ⟨⟨b0, b1, b2, b3, b4, rs⟩, a, c⟩ := x
        dsimp only at HAT HLQ c0 c1 c2 c3 c4 c5
        go_wp2_with (first | (go_at_call 54; ((with_reducible refine (HLQ.out _ (HAT.out.more (more_wd _ _ _))).mono ?_); rintro e w2 hbr; obtain ⟨bl, rfl, x9, n9, rfl⟩ := hbr.out; cases bl)))
        · go_ret
          exact ⟨_, rfl, more_wd _ _ _, fun _ => hl2⟩
        · go_roundw
          case rel => exact ⟨k + 1, ⟨_, _⟩, by omega, by go_num, wd_merge _ _ _ _ _⟩
          case measure => simp [intOf]; omega
      · go_wp2
        go_ret
        exact ⟨_, rfl, more_wd _ _ _, fun _ => hl2⟩
end Go.Proofs.Ytlanghikmccmbaa
/- What came in: bytes, records, batches. -/
namespace Go.Proofs.Ytlanghikmccmbaa
open Go.ChangeShapes Go.WideShapes Go.ChangeAt Go.RowKit
set_option linter.unusedVariables false
set_option linter.unusedSimpArgs false

theorem cells_of : Try.prog.cellsOf 3 = 1 ∧ Try.prog.cellsOf 9 = 1 ∧ Try.prog.cellsOf 4 = 1 ∧ Try.prog.cellsOf 5 = 1 ∧ Try.prog.cellsOf 48 = 1 ∧ Try.prog.cellsOf 65 = 1 ∧ Try.prog.cellsOf 73 = 6 ∧ Try.prog.cellsOf 67 = 6 ∧ True := by
  refine ⟨?_, ?_, ?_, ?_, ?_, ?_, ?_, ?_, trivial⟩ <;> kernel_rfl
theorem i64_wf {n : Int} (h : (Lit.int .i64 n).wf = true) : I64 n := by
  simp only [Lit.wf, Bool.and_eq_true, decide_eq_true_eq] at h
  exact h
theorem rows_rd {α : Type} [Inhabited α] {w : World} {t e : TypeId} {cs : List Value} {size : Nat} {cells : α → List Value} {p : α → Prop} (ht : Try.prog.underlying t = some (.slice e)) (hsz : Try.prog.cellsOf e = size) (hpos : 0 < size) (hlen : ∀ x, (cells x).length = size)
    (hel : ∀ cs, Rd Try.prog w e cs → ∃ x : α, cs = cells x ∧ p x) (h : Rd Try.prog w t cs) : ∃ (a : Option Addr) (cap : Nat) (l : List α), cs = [.slice a l.length cap] ∧ RowAt cells size w a l ∧ (∀ x ∈ l, p x) ∧ l.length ≤ cap ∧ cap ≤ maxLen := by
  rcases h.slice ht (by omega) with ⟨a, cap, rfl, hm⟩ | ⟨b, off, len, cap, rfl, h0, hl, hm, hb, hcells⟩
  · exact ⟨a, cap, [], rfl, RowAt.nil _, fun x hx => by simp at hx, Nat.zero_le _, hm⟩
  · rw [hsz] at hcells
    have key : ∀ k, ∃ x : α, k < len → p x ∧ ∀ j, j < size → w.cell? ⟨b, off + (k * size + j), none⟩ = (cells x)[j]? := fun k => by
      by_cases hk : k < len
      · obtain ⟨cs', _, hr, hc⟩ := hcells k hk
        obtain ⟨x, rfl, hp⟩ := hel cs' hr
        exact ⟨x, fun _ => ⟨hp, hc⟩⟩
      · exact ⟨default, fun h => absurd h hk⟩
    obtain ⟨f, hf⟩ := Classical.axiomOfChoice key
    have hr := rdrow_of_fn cells size hlen hpos (cap := cap) f hb (fun k hk => (hf k hk).2)
    have hll : ((List.range len).map f).length = len := by simp
    refine ⟨some ⟨b, off, none⟩, cap, (List.range len).map f, by rw [hll], RowAt.of_rd (cap := cap) ?_, ?_, by rw [hll]; exact hl, hm⟩
    · rw [hll] at hr ⊢; exact hr
    · intro x hx
      obtain ⟨k, hk, rfl⟩ := List.mem_map.1 hx
      exact (hf k (by simpa using hk)).1
theorem seg {α : Type} (cs : List α) (k m : Nat) : cs.drop k = (cs.drop k).take m ++ cs.drop (k + m) := by
  rw [← List.drop_drop]; exact (List.take_append_drop m _).symm
theorem str_ex (s : ByteArray) : ∃ l : List UInt8, s = str l ∧ l.length = s.size := ⟨s.data.toList, (str_of s).symm, by simp⟩
theorem rec_rd {w : World} {cs : List Value} (h : Rd Try.prog w 73 cs) : ∃ x : Rec, cs = recCells x ∧ x.wf ∧ x.key.length ≤ maxLen ∧ x.value.length ≤ maxLen := by
  obtain ⟨ci, cst, cb, _, _, _, cr, _⟩ := cells_of
  obtain ⟨hl, hf⟩ := h.struct Try.underlying73
  rw [cr] at hl
  obtain ⟨n0, e0, w0⟩ := (hf 0 _ rfl).int Try.underlying3
  obtain ⟨n1, e1, w1⟩ := (hf 1 _ rfl).int Try.underlying3
  obtain ⟨b2, e2⟩ := (hf 2 _ rfl).bool Try.underlying4
  obtain ⟨s3, e3, m3⟩ := (hf 3 _ rfl).string Try.underlying9
  obtain ⟨b4, e4⟩ := (hf 4 _ rfl).bool Try.underlying4
  obtain ⟨s5, e5, m5⟩ := (hf 5 _ rfl).string Try.underlying9
  obtain ⟨l3, rfl, g3'⟩ := str_ex s3
  obtain ⟨l5, rfl, g5'⟩ := str_ex s5
  have e0 : (cs.drop 0).take (Try.prog.cellsOf 3) = _ := e0
  rw [ci] at e0
  have e1 : (cs.drop 1).take (Try.prog.cellsOf 3) = _ := e1
  rw [ci] at e1
  have e2 : (cs.drop 2).take (Try.prog.cellsOf 4) = _ := e2
  rw [cb] at e2
  have e3 : (cs.drop 3).take (Try.prog.cellsOf 9) = _ := e3
  rw [cst] at e3
  have e4 : (cs.drop 4).take (Try.prog.cellsOf 4) = _ := e4
  rw [cb] at e4
  have e5 : (cs.drop 5).take (Try.prog.cellsOf 9) = _ := e5
  rw [cst] at e5
  have g0 := seg cs 0 1
  rw [e0] at g0
  have g1 := seg cs 1 1
  rw [e1] at g1
  have g2 := seg cs 2 1
  rw [e2] at g2
  have g3 := seg cs 3 1
  rw [e3] at g3
  have g4 := seg cs 4 1
  rw [e4] at g4
  have g5 := seg cs 5 1
  rw [e5] at g5
  have gz : cs.drop 6 = [] := List.drop_eq_nil_of_le (by omega)
  have hcs : cs = _ := (List.drop_zero (l := cs)).symm.trans g0
  simp only [Nat.zero_add, Nat.reduceAdd] at g0 g1 g2 g3 g4 g5 hcs
  rw [g1, g2, g3, g4, g5, gz] at hcs
  exact ⟨⟨n0, n1, b2, l3, b4, l5⟩, hcs, ⟨i64_wf w0, i64_wf w1⟩, by rw [g3']; exact m3, by rw [g5']; exact m5⟩
/-- Records that came in. -/
theorem recs_rd {w : World} {cs : List Value} (h : Rd Try.prog w 65 cs) : ∃ (a : Option Addr) (cap : Nat) (l : List Rec), cs = [.slice a l.length cap] ∧ RecsAt w a l ∧ (∀ x ∈ l, x.wf) ∧ l.length ≤ maxLen := by
  obtain ⟨a, cap, l, h1, h2, h3, h4, h5⟩ := rows_rd (cells := recCells) (size := 6) (p := fun x => x.wf) Try.underlying65 cells_of.2.2.2.2.2.2.1 (by decide) recCells_len (fun cs hcs => by obtain ⟨x, hx, hw, _⟩ := rec_rd hcs; exact ⟨x, hx, hw⟩) h
  exact ⟨a, cap, l, h1, h2, h3, Nat.le_trans h4 h5⟩
def batCells (b : Bat) (a : Option Addr) (cap : Nat) : List Value := [.int .i64 b.base, .int .i64 b.count, .int .i64 b.producer, .int .i64 b.epoch, .int .i64 b.seq, .slice a b.recs.length cap]
theorem bat_rd {w : World} {cs : List Value} (h : Rd Try.prog w 67 cs) : ∃ (b : Bat) (a : Option Addr) (cap : Nat), cs = batCells b a cap ∧ RecsAt w a b.recs ∧ b.wf ∧ (∀ x ∈ b.recs, x.wf) ∧ b.recs.length ≤ maxLen := by
  obtain ⟨ci, cst, cb, _, _, crs, cr, cbt, _⟩ := cells_of
  obtain ⟨hl, hf⟩ := h.struct Try.underlying67
  rw [cbt] at hl
  obtain ⟨n0, e0, w0⟩ := (hf 0 _ rfl).int Try.underlying3
  obtain ⟨n1, e1, w1⟩ := (hf 1 _ rfl).int Try.underlying3
  obtain ⟨n2, e2, w2⟩ := (hf 2 _ rfl).int Try.underlying3
  obtain ⟨n3, e3, w3⟩ := (hf 3 _ rfl).int Try.underlying3
  obtain ⟨n4, e4, w4⟩ := (hf 4 _ rfl).int Try.underlying3
  obtain ⟨a, cap, l, e5, hr, hw, hm⟩ := recs_rd (hf 5 _ rfl)
  have e0 : (cs.drop 0).take (Try.prog.cellsOf 3) = _ := e0
  rw [ci] at e0
  have e1 : (cs.drop 1).take (Try.prog.cellsOf 3) = _ := e1
  rw [ci] at e1
  have e2 : (cs.drop 2).take (Try.prog.cellsOf 3) = _ := e2
  rw [ci] at e2
  have e3 : (cs.drop 3).take (Try.prog.cellsOf 3) = _ := e3
  rw [ci] at e3
  have e4 : (cs.drop 4).take (Try.prog.cellsOf 3) = _ := e4
  rw [ci] at e4
  have e5 : (cs.drop 5).take (Try.prog.cellsOf 65) = _ := e5
  rw [crs] at e5
  have g0 := seg cs 0 1
  rw [e0] at g0
  have g1 := seg cs 1 1
  rw [e1] at g1
  have g2 := seg cs 2 1
  rw [e2] at g2
  have g3 := seg cs 3 1
  rw [e3] at g3
  have g4 := seg cs 4 1
  rw [e4] at g4
  have g5 := seg cs 5 1
  rw [e5] at g5
  have gz : cs.drop 6 = [] := List.drop_eq_nil_of_le (by omega)
  have hcs : cs = _ := (List.drop_zero (l := cs)).symm.trans g0
  simp only [Nat.zero_add, Nat.reduceAdd] at g0 g1 g2 g3 g4 g5 hcs
  rw [g1, g2, g3, g4, g5, gz] at hcs
  exact ⟨⟨n0, n1, n2, n3, n4, l⟩, a, cap, hcs, hr, ⟨i64_wf w0, i64_wf w1, i64_wf w2, i64_wf w3, i64_wf w4⟩, hw, hm⟩

/-- Batches that came in. -/
theorem bats_rd {w : World} {cs : List Value} (h : Rd Try.prog w 60 cs) : ∃ (ad : Option Addr) (cap : Nat) (l : List Btm), cs = [.slice ad l.length cap] ∧ BatsAt w ad l ∧ (∀ x ∈ l, x.b.recs.length ≤ maxLen) ∧ l.length ≤ maxLen := by
  obtain ⟨a, cap, l, h1, h2, h3, h4, h5⟩ := rows_rd (cells := btmCells) (size := 6) (p := fun x => RecsAt w x.a x.b.recs ∧ x.b.recs.length ≤ maxLen) Try.underlying60 cells_of.2.2.2.2.2.2.2.1 (by decide) btmCells_len (fun cs hcs => by obtain ⟨b, a, cap, hx, hr, _, _, hm⟩ := bat_rd hcs; exact ⟨⟨b, a, cap⟩, hx, hr, hm⟩) h
  exact ⟨a, cap, l, h1, ⟨h2, fun x hx => (h3 x hx).1⟩, fun x hx => (h3 x hx).2, Nat.le_trans h4 h5⟩
end Go.Proofs.Ytlanghikmccmbaa
/- A row that somebody owns ('World.ownsRow'), written into, cut, cleared. -/
namespace Go.Proofs.Ytlanghikmccmbaa
open Go.RowKit
set_option linter.unusedVariables false
set_option linter.unusedSimpArgs false
/-- The list l, with vs from place o on. -/
def putL {α : Type} (l : List α) (o : Nat) : List α → List α
  | [] => l
  | v :: r => putL (l.set o v) (o + 1) r
theorem putL_len {α : Type} : ∀ (vs l : List α) (o : Nat), (putL l o vs).length = l.length
  | [], _, _ => rfl
  | v :: r, l, o => by rw [putL, putL_len r]; simp
theorem putL_take {α : Type} : ∀ (vs l : List α) (o m : Nat), (putL l o vs).take m = putL (l.take m) o vs
  | [], _, _, _ => rfl
  | v :: r, l, o, m => by rw [putL, putL_take r, List.take_set]; rfl
theorem putL_left {α : Type} : ∀ (vs l : List α) (o m : Nat), m ≤ o → (putL l o vs).take m = l.take m
  | [], _, _, _, _ => rfl
  | v :: r, l, o, m, h => by
    rw [putL, putL_left r _ _ _ (by omega), List.take_set, List.set_eq_of_length_le (by simp; omega)]
theorem putL_cons {α : Type} (y : α) : ∀ (vs l : List α) (o : Nat), putL (y :: l) (o + 1) vs = y :: putL l o vs
  | [], _, _ => rfl
  | v :: r, l, o => by rw [putL, List.set_cons_succ, putL_cons y r]; rfl
theorem putL_skip {α : Type} (vs : List α) : ∀ (p l : List α) (o : Nat), putL (p ++ l) (p.length + o) vs = p ++ putL l o vs
  | [], l, o => by simp
  | y :: p, l, o => by
    rw [List.cons_append, List.length_cons, show p.length + 1 + o = (p.length + o) + 1 by omega, putL_cons, putL_skip vs p l o]; rfl
theorem putL_over {α : Type} : ∀ (vs us l : List α), us.length = vs.length → putL (us ++ l) 0 vs = vs ++ l
  | [], us, l, h => by rw [List.eq_nil_of_length_eq_zero h]; rfl
  | v :: r, [], l, h => by cases h
  | v :: r, u :: us, l, h => by
    rw [putL, List.cons_append, List.set_cons_zero, putL_cons, putL_over r us l (by simpa using h)]; rfl
theorem putL_flat {α : Type} (cells : α → List Value) (size : Nat) (hs : ∀ x, (cells x).length = size) : ∀ (l : List α) (k : Nat) (x : α), k < l.length → putL (l.flatMap cells) (k * size) (cells x) = (l.set k x).flatMap cells
  | [], k, x, h => by cases h
  | y :: l, 0, x, h => by
    rw [List.flatMap_cons, Nat.zero_mul, putL_over _ _ _ (by rw [hs, hs]), List.set_cons_zero, List.flatMap_cons]
  | y :: l, k + 1, x, h => by
    rw [List.flatMap_cons, Nat.succ_mul, List.set_cons_succ, List.flatMap_cons, ← putL_flat cells size hs l k x (by simpa using h)]
    have := putL_skip (cells x) (cells y) (l.flatMap cells) (k * size)
    rw [hs, Nat.add_comm] at this
    exact this
theorem setCell_block (w : World) (g o : Nat) (v : Value) {cur : Array Value} {E : TypeId} {fr : Nat × Nat} (h : w.heap[g]? = some (.cells cur E fr)) : (w.setCell ⟨g, o, none⟩ v).heap[g]? = some (.cells (cur.setIfInBounds o v) E fr) := by
  simp only [World.setCell]
  rw [Array.getElem?_modify, if_pos rfl, h]
  rfl
theorem setCells_block (g : Nat) {E : TypeId} {fr : Nat × Nat} : ∀ (vs : List Value) (o : Nat) (w : World) (cur : Array Value), w.heap[g]? = some (.cells cur E fr) → (w.setCells g o vs).heap[g]? = some (.cells (putL cur.toList o vs).toArray E fr)
  | [], _, _, _, h => h
  | v :: r, o, w, cur, h => by
    rw [World.setCells, setCells_block g r (o + 1) _ _ (setCell_block w g o v h), Array.toList_setIfInBounds]
    rfl
theorem setCells_grown (g : Nat) : ∀ (vs : List Value) (o : Nat) (w : World), w.grownBy (w.setCells g o vs) (some g) ∧ (w.setCells g o vs).heap.size = w.heap.size
  | [], _, w => ⟨⟨rfl, rfl, rfl, Nat.le_refl _, fun _ _ _ => rfl⟩, rfl⟩
  | v :: r, o, w => by
    obtain ⟨h1, h2⟩ := setCells_grown g r (o + 1) (w.setCell ⟨g, o, none⟩ v)
    have hs : (w.setCell ⟨g, o, none⟩ v).heap.size = w.heap.size := by simp [World.setCell]
    refine ⟨⟨h1.os, h1.tape, h1.output, by rw [World.setCells, h2, hs]; exact Nat.le_refl _, fun i hi hne => ?_⟩, by rw [World.setCells, h2, hs]⟩
    rw [World.setCells, h1.block i (by rw [hs]; exact hi) hne]
    simp only [World.setCell]
    rw [Array.getElem?_modify, if_neg (fun e => hne (by rw [e]))]
theorem grown_refl (w : World) (row : Option Nat) : w.grownBy w row := ⟨rfl, rfl, rfl, Nat.le_refl _, fun _ _ _ => rfl⟩
theorem grown_trans {a b c : World} {row : Option Nat} (h : a.grownBy b row) (k : b.grownBy c row) : a.grownBy c row :=
  ⟨k.os.trans h.os, k.tape.trans h.tape, k.output.trans h.output, Nat.le_trans h.size k.size, fun i hi hne => (k.block i (Nat.lt_of_lt_of_le hi h.size) hne).trans (h.block i hi hne)⟩
theorem grown_more {a b : World} (h : More a b) (row : Option Nat) : a.grownBy b row := by
  have bel := h.below
  exact ⟨bel.os, bel.tape, bel.output, bel.size, fun i hi _ => bel.block i hi⟩
theorem owns_more {w w' : World} {B size n : Nat} {E : TypeId} {v : Value} {xs : List Value} (h : w.ownsRow B E size v n xs) (hm : More w w') : w'.ownsRow B E size v n xs := by
  obtain ⟨h1, h2⟩ := h
  refine ⟨h1, ?_⟩
  rcases h2 with h2 | ⟨g, cap, cur, hv, hg, he, r⟩
  · exact .inl h2
  · exact .inr ⟨g, cap, cur, hv, hg, (hm.below.block g (Array.getElem?_eq_some_iff.1 he).1).trans he, r⟩
section
variable {W : World} {B size n cap g : Nat} {E : TypeId} {xs : List Value}
theorem owns_block (h : W.ownsRow B E size (.slice (some ⟨g, 0, none⟩) n cap) n xs) : ∃ cur, W.heap[g]? = some (.cells cur E (0, 0)) ∧ B ≤ g ∧ n ≤ cap ∧ cap ≤ maxLen ∧ cur.size = cap * size ∧ cur.toList.take (n * size) = xs ∧ xs.length = n * size := by
  obtain ⟨h1, ⟨h2, _⟩ | ⟨g', cap', cur, hv, hg, he, hn, hm, hs, hx⟩⟩ := h
  · cases h2
  · cases hv; exact ⟨cur, he, hg, hn, hm, hs, hx, h1⟩
theorem owns_lt (h : W.ownsRow B E size (.slice (some ⟨g, 0, none⟩) n cap) n xs) : g < W.heap.size := by
  obtain ⟨cur, hb, _⟩ := owns_block h
  exact (Array.getElem?_eq_some_iff.1 hb).1
theorem owns_cell (h : W.ownsRow B E size (.slice (some ⟨g, 0, none⟩) n cap) n xs) (i : Nat) (hi : i < n * size) : W.cell? ⟨g, i, none⟩ = xs[i]? := by
  obtain ⟨cur, hb, -, -, -, -, hx, -⟩ := owns_block h
  simp only [World.cell?, hb]
  rw [← hx, List.getElem?_take, if_pos hi]
  simp
theorem owns_frozen (h : W.ownsRow B E size (.slice (some ⟨g, 0, none⟩) n cap) n xs) (i : Nat) : W.frozen? ⟨g, i, none⟩ = false := by
  obtain ⟨cur, hb, -⟩ := owns_block h
  simp only [World.frozen?, hb]
  simp
theorem owns_take (h : W.ownsRow B E size (.slice (some ⟨g, 0, none⟩) n cap) n xs) (m : Nat) (hm : m ≤ n) : W.ownsRow B E size (.slice (some ⟨g, 0, none⟩) m cap) m (xs.take (m * size)) := by
  obtain ⟨cur, hb, h1, h2, h3, h4, h5, h6⟩ := owns_block h
  have hle := Nat.mul_le_mul_right size hm
  refine ⟨by rw [List.length_take, h6]; omega, .inr ⟨g, cap, cur, rfl, h1, hb, by omega, h3, h4, ?_⟩⟩
  rw [← h5, List.take_take, Nat.min_eq_left hle]
theorem owns_put (h : W.ownsRow B E size (.slice (some ⟨g, 0, none⟩) n cap) n xs) (o : Nat) (vs : List Value) : (W.setCells g o vs).ownsRow B E size (.slice (some ⟨g, 0, none⟩) n cap) n (putL xs o vs) := by
  obtain ⟨cur, hb, h1, h2, h3, h4, h5, h6⟩ := owns_block h
  refine ⟨by rw [putL_len]; exact h6, .inr ⟨g, cap, _, rfl, h1, setCells_block g vs o W cur hb, h2, h3, ?_, ?_⟩⟩
  · rw [List.size_toArray, putL_len, Array.length_toList, h4]
  · rw [List.toList_toArray, putL_take, h5]
theorem owns_run (P : Program) (h : W.ownsRow B E size (.slice (some ⟨g, 0, none⟩) n cap) n xs) (o : Nat) (vs : List Value) (ho : o + vs.length ≤ n * size) (h1 : ∀ v ∈ vs, v.oneCell' = true) : (storeCells ⟨g, o, none⟩ vs 0).run P W = .ok () (W.setCells g o vs) := by
  obtain ⟨cur, hb, -, -, -, -, -, h6⟩ := owns_block h
  have := run_storeCells_cells (P := P) g o vs 0 W (fun j hj => by
    rw [owns_cell h _ (by omega), List.getElem?_eq_getElem (by omega)]; rfl) (fun j hj => owns_frozen h _) h1
  rwa [Nat.add_zero] at this
/-- The element's cells, stored over the k-th one. -/
theorem wp_store_own {P : Program} {ops : Array Oper} {rest : List Oper} {o : Oper} {a : Act} {Q : Exit → Act → World → Prop} (hg : o.guard = none) (p v : Operand) (t : TypeId) (hop : o.op = Op.store t p v) (zE : ∀ w, (Go.sizeOf t).run P w = .ok size w)
    (h : W.ownsRow B E size (.slice (some ⟨g, 0, none⟩) n cap) n xs) (k off : Nat) (hk : k < n) (hoff : off = k * size) (C : Array Value) (hp : a.eval p = .pointer (some ⟨g, off, none⟩)) (hv : a.eval v = .agg C) (hC : C.size = size) (h1 : ∀ u ∈ C.toList, u.oneCell' = true)
    (hK : ∀ W', W'.ownsRow B E size (.slice (some ⟨g, 0, none⟩) n cap) n (putL xs (k * size) C.toList) → W.grownBy W' (some g) → W'.heap.size = W.heap.size → wpList P ops Q rest (a.put o.dst undef) W') : wpList P ops Q (o :: rest) a W := by
  subst hoff
  refine wpList_plain hg fun K' hK' => ?_
  have hle : k * size + size ≤ n * size := by have := Nat.mul_le_mul_right size (show k + 1 ≤ n from hk); rwa [Nat.succ_mul] at this
  have hrun := owns_run P h (k * size) C.toList (by rw [Array.length_toList, hC]; exact hle) h1
  obtain ⟨g1, g2⟩ := setCells_grown g C.toList (k * size) W
  unfold Oper.wp
  simp [execOp, hop, hp, hv, Instr.storeAt, Instr.sureAddr, storeVar, zE, Value.cells, hC, hrun, Result.andThen]
  exact hK' _ _ (hK _ (owns_put h _ _) g1 g2)
theorem rowat_of_owns {α : Type} {cells : α → List Value} {l : List α} {m c : Nat} {a : Option Addr} (hl : l.length = m) (h : W.ownsRow B E size (.slice a m c) m (l.flatMap cells)) : RowAt cells size W a l := by
  refine ⟨fun hne => ?_⟩
  have h' := h
  obtain ⟨h1, ⟨h2, h3⟩ | ⟨g', cap', cur, hv, hg, he, _⟩⟩ := h
  · exact absurd (List.eq_nil_of_length_eq_zero (by omega)) hne
  · cases hv
    exact ⟨g', 0, rfl, (Array.getElem?_eq_some_iff.1 he).1, fun i hi => by rw [Nat.zero_add]; exact owns_cell h' i (by rw [← hl]; exact hi)⟩
end
end Go.Proofs.Ytlanghikmccmbaa
/- Maps that the call itself has made, in worlds written out in pieces: 'MapB .. o': the block o is a map that reads as D; 'RangeB': an iterator over it. -/
namespace Go.Proofs.Ytlanghikmccmbaa
open Go.RowKit Go.ChangeMaps Go.Maps
set_option linter.unusedVariables false
set_option linter.unusedSimpArgs false
section
variable {H : Type} {P : Program} {k : TypeId} {R : Value → Option (DataW H × List MemPlace)}
structure MapB (P : Program) (k : TypeId) (R : Value → Option (DataW H × List MemPlace)) (n : Nat) (D : DataW H) (o : Obj) : Prop where
  own : ∀ (W : World) (b : Nat), W.heap[b]? = some o → W.ownsMap P k R b n D
  sort : ∃ es clock, o = .map es clock
structure RangeB (P : Program) (k : TypeId) (R : Value → Option (DataW H × List MemPlace)) (b n : Nat) (D : DataW H) (left : Lit → Bool) (cnt : Nat) (om oi : Obj) : Prop where
  own : ∀ (W : World) (r : Nat), W.heap[b]? = some om → W.heap[r]? = some oi → W.ranges P k R b r n D left cnt
  sort : ∃ m s c d, oi = .mapIter m s c d
theorem mapb_of {W : World} {b n : Nat} {D : DataW H} {o : Obj} (h : W.ownsMap P k R b n D) (hb : W.heap[b]? = some o) : MapB P k R n D o := by
  obtain ⟨es, clock, hb', r⟩ := h
  rw [hb] at hb'
  cases hb'
  exact ⟨fun W' b' hb2 => ⟨es, clock, hb2, r⟩, ⟨es, clock, rfl⟩⟩
theorem mapb_made (w : World) : MapB P k R 0 (.map [] : DataW H) (.map #[] 0) := mapb_of (World.ownsMap_made w P k R) (MapKept.heap_alloc w _).1
theorem rangeb_of {W : World} {b r n cnt : Nat} {D : DataW H} {left : Lit → Bool} {om oi : Obj} (h : W.ranges P k R b r n D left cnt) (hb : W.heap[b]? = some om) (hr : W.heap[r]? = some oi) : RangeB P k R b n D left cnt om oi := by
  obtain ⟨es, clock, since, seen, c0, h1, h2, h3, h4, h5, rest⟩ := h
  rw [hb] at h1
  cases h1
  rw [hr] at h5
  cases h5
  exact ⟨fun W' r' hb2 hr2 => ⟨es, clock, since, seen, c0, hb2, h2, h3, h4, hr2, rest⟩, ⟨_, _, _, _, rfl⟩⟩
/-! the block of an own object among the pieces -/
theorem inn_mid (S : List Nat) : ∀ T : List Nat, inn S (T ++ 1 :: S)
  | [] => .inl ⟨rfl, rfl⟩
  | x :: T => .inr (inn_mid S T)
theorem shape_append : ∀ A L : List (Array Obj), shape (A ++ L) = shape A ++ shape L
  | [], _ => rfl
  | x :: A, L => by simp only [List.cons_append, shape, shape_append A L]
theorem mid_at (w : World) (o : Obj) (L : List (Array Obj)) (n : Nat) : ∀ A : List (Array Obj), (wd w (A ++ #[o] :: L) n).heap[sz w.heap.size (shape L)]? = some o
  | [] => wd_at w L n _ _ o rfl rfl
  | x :: A => by
    rw [List.cons_append, wd_past w (A ++ #[o] :: L) n _ _ x rfl (by rw [shape_append]; exact inn_mid _ _)]
    exact mid_at w o L n A
theorem mid_set (w : World) (o o' : Obj) (L : List (Array Obj)) : ∀ A : List (Array Obj), (hp w.heap (A ++ #[o] :: L)).setIfInBounds (sz w.heap.size (shape L)) o' = hp w.heap (A ++ #[o'] :: L)
  | [] => by
    show (hp w.heap L ++ #[o]).setIfInBounds _ o' = hp w.heap L ++ #[o']
    rw [← hp_size]
    apply Array.ext_getElem?
    intro i
    rw [Array.getElem?_setIfInBounds, Array.getElem?_append, Array.getElem?_append]
    by_cases h1 : i < (hp w.heap L).size
    · have : (hp w.heap L).size ≠ i := by omega
      simp [h1, this]
    · by_cases h2 : (hp w.heap L).size = i
      · subst h2; simp
      · have h0 : i - (hp w.heap L).size ≠ 0 := by omega
        simp only [h1, h2, if_false]
        rw [Array.getElem?_eq_none (by simp; omega), Array.getElem?_eq_none (by simp; omega)]
  | x :: A => by
    show (hp w.heap (A ++ #[o] :: L) ++ x).setIfInBounds _ o' = hp w.heap (A ++ #[o'] :: L) ++ x
    have hlt : sz w.heap.size (shape L) < (hp w.heap (A ++ #[o] :: L)).size := by rw [hp_size]; exact inn_lt _ (by rw [shape_append]; exact inn_mid _ _)
    rw [Array.setIfInBounds_append_left hlt, mid_set w o o' L A]
theorem mid_setBlock (w : World) (o o' : Obj) (L : List (Array Obj)) (n : Nat) (A : List (Array Obj)) : setBlock (wd w (A ++ #[o] :: L) n) (sz w.heap.size (shape L)) o' = wd w (A ++ #[o'] :: L) n :=
  world_ext (mid_set w o o' L A) rfl rfl rfl rfl
theorem mid_eq (w : World) (o o' : Obj) (L : List (Array Obj)) (n : Nat) (A : List (Array Obj)) (W : World) (hs : W.heap.size = (wd w (A ++ #[o] :: L) n).heap.size) (hg : (wd w (A ++ #[o] :: L) n).grownBy W (some (sz w.heap.size (shape L)))) (ho : W.heap[sz w.heap.size (shape L)]? = some o') : W = wd w (A ++ #[o'] :: L) W.drawn := by
  refine world_ext ?_ hg.tape rfl hg.os hg.output
  show W.heap = hp w.heap (A ++ #[o'] :: L)
  rw [← mid_set w o o' L A]
  apply Array.ext_getElem?
  intro i
  rw [Array.getElem?_setIfInBounds]
  have hlt : sz w.heap.size (shape L) < (hp w.heap (A ++ #[o] :: L)).size := by rw [hp_size]; exact inn_lt _ (by rw [shape_append]; exact inn_mid _ _)
  by_cases h1 : sz w.heap.size (shape L) = i
  · subst h1; rw [if_pos rfl, if_pos hlt, ho]
  · rw [if_neg h1]
    by_cases h2 : i < (hp w.heap (A ++ #[o] :: L)).size
    · exact hg.block i h2 (fun e => h1 (Option.some.inj e).symm)
    · rw [Array.getElem?_eq_none (by rw [hs]; exact Nat.le_of_not_lt h2), Array.getElem?_eq_none (Nat.le_of_not_lt h2)]
/-! the operations -/
variable {w : World} {L A : List (Array Obj)} {nd n : Nat} {o : Obj} {D : DataW H} {t e : TypeId}
theorem map_store (h : MapB P k R n D o) (K : Keyed P k) (ht : P.underlying t = some (.map k e)) (hn : n < maxLen) {key val : Value} {kl : Lit} {d : DataW H} {ps : List MemPlace} (hkey : keyOf P k key = some kl) (hv : R val = some (d, ps)) :
    ∃ o', (Instr.mapUpdate t (.map (some (sz w.heap.size (shape L)))) key val).run P (wd w (A ++ #[o] :: L) nd) = .ok () (wd w (A ++ #[o'] :: L) nd) ∧ MapB P k R (n + 1) (D.put kl d) o' := by
  obtain ⟨w', hrun, hown, es, clock, es', clock', hb, rfl⟩ := (h.own _ _ (mid_at w o L nd A)).store K ht hn hkey hv
  rw [mid_setBlock] at hrun hown
  exact ⟨_, hrun, mapb_of hown (mid_at w _ L nd A)⟩
theorem map_drop (h : MapB P k R n D o) (K : Keyed P k) (ht : P.underlying t = some (.map k e)) {key : Value} {kl : Lit} (hkey : keyOf P k key = some kl) (ty : TypeId) :
    ∃ o', (Builtin.delete_ #[t, k] ty #[.map (some (sz w.heap.size (shape L))), key]).run P (wd w (A ++ #[o] :: L) nd) = .ok (.tuple #[]) (wd w (A ++ #[o'] :: L) nd) ∧ MapB P k R n (D.del kl) o' := by
  obtain ⟨w', hrun, hown, es, clock, es', clock', hb, rfl⟩ := (h.own _ _ (mid_at w o L nd A)).drop K ht hkey ty
  rw [mid_setBlock] at hrun hown
  exact ⟨_, hrun, mapb_of hown (mid_at w _ L nd A)⟩
theorem map_look (h : MapB P k R n D o) (K : Keyed P k) (ht : P.underlying t = some (.map k e)) {z : Value} (hz : ∀ W, (zeroValue e).run P W = .ok z W) {zd : DataW H} {zp : List MemPlace} (hzd : R z = some (zd, zp)) {key : Value} {kl : Lit} (hkey : keyOf P k key = some kl) :
    ∀ (W : World) (b : Nat), W.heap[b]? = some o → ∃ v ps, (Instr.lookup t (.map (some b)) key false).run P W = .ok v W ∧ R v = some (D.atKey kl zd, ps) := fun W b hb => (h.own W b hb).lookup K ht (hz W) hzd hkey
theorem map_range (h : MapB P k R n D o) (K : Keyed P k) (ht : P.underlying t = some (.map k e)) : ∃ oi, (Instr.range t (.map (some (sz w.heap.size (shape L))))).run P (wd w (A ++ #[o] :: L) nd) = .ok (.pointer (some ⟨sz w.heap.size (shape (A ++ #[o] :: L)), 0, none⟩)) (wd w (#[oi] :: (A ++ #[o] :: L)) nd) ∧ RangeB P k R (sz w.heap.size (shape L)) n D (Maps.has D) (Maps.size D) o oi := by
  obtain ⟨es, clock, rfl⟩ := h.sort
  have hb := mid_at w (.map es clock) L nd A
  obtain ⟨w', hrun, hr, -, -⟩ := (h.own _ _ hb).range K ht
  have hrun2 := run_range_map (P := P) _ t k e _ es clock ht hb
  rw [hrun2] at hrun
  cases hrun
  rw [wd_alloc, wd_size] at hrun2 hr
  exact ⟨_, hrun2, rangeb_of hr (mid_at w _ L nd (_ :: A)) (mid_at w _ (A ++ #[.map es clock] :: L) nd [])⟩
theorem range_next {A2 : List (Array Obj)} {cnt : Nat} {left : Lit → Bool} {om oi : Obj} (h : RangeB P k R (sz w.heap.size (shape L)) n D left cnt om oi) (K : Keyed P k) (ty : TypeId) :
    (cnt = 0 ∧ (∀ kl, left kl = false) ∧ (Instr.next (.pointer (some ⟨sz w.heap.size (shape (A2 ++ #[om] :: L)), 0, none⟩)) false ty).run P (wd w (A ++ #[oi] :: (A2 ++ #[om] :: L)) nd) = .ok (.tuple #[.bool false]) (wd w (A ++ #[oi] :: (A2 ++ #[om] :: L)) nd)) ∨
    ∃ key v kl y oi' nd' cnt', keyOf P k key = some kl ∧ left kl = true ∧ R v = some y ∧ (∀ zd, D.atKey kl zd = y.1) ∧ (Instr.next (.pointer (some ⟨sz w.heap.size (shape (A2 ++ #[om] :: L)), 0, none⟩)) false ty).run P (wd w (A ++ #[oi] :: (A2 ++ #[om] :: L)) nd) = .ok (.tuple #[.bool true, key, v]) (wd w (A ++ #[oi'] :: (A2 ++ #[om] :: L)) nd') ∧
      RangeB P k R (sz w.heap.size (shape L)) n D (fun x => left x && !x.sameKey kl) cnt' om oi' ∧ cnt' < cnt ∧ (Instr.entry (.pointer (some ⟨sz w.heap.size (shape (A2 ++ #[om] :: L)), 0, none⟩))).run P (wd w (A ++ #[oi'] :: (A2 ++ #[om] :: L)) nd') = .ok (.tuple #[key, v]) (wd w (A ++ #[oi'] :: (A2 ++ #[om] :: L)) nd') := by
  have hb : ∀ (o : Obj) (nd : Nat), (wd w (A ++ #[o] :: (A2 ++ #[om] :: L)) nd).heap[sz w.heap.size (shape L)]? = some om := fun o nd => by
    have := mid_at w om L nd (A ++ #[o] :: A2)
    rw [List.append_assoc, List.cons_append] at this
    exact this
  have hr := mid_at w oi (A2 ++ #[om] :: L) nd A
  rcases (h.own _ _ (hb oi nd) hr).next K ty with h1 | ⟨key, v, kl, y, w', cnt', h1, h2, h3, h4, h5, h6, h7, h8, h9, h10⟩
  · exact .inl h1
  · have hlt : sz w.heap.size (shape (A2 ++ #[om] :: L)) < w'.heap.size := by rw [h9]; exact (Array.getElem?_eq_some_iff.1 hr).1
    have e1 := mid_eq w oi (w'.heap[sz w.heap.size (shape (A2 ++ #[om] :: L))]) (A2 ++ #[om] :: L) nd A w' h9 h8 (Array.getElem?_eq_getElem hlt)
    refine .inr ⟨key, v, kl, y, w'.heap[sz w.heap.size (shape (A2 ++ #[om] :: L))], w'.drawn, cnt', h1, h2, h3, h4, ?_, ?_, h7, ?_⟩
    · rw [← e1]; exact h5
    · refine rangeb_of h6 ?_ (Array.getElem?_eq_getElem hlt)
      rw [e1]; exact hb _ _
    · rw [← e1]; exact h10
theorem range_left {A2 : List (Array Obj)} {cnt r : Nat} {left : Lit → Bool} {om oi : Obj} (h : RangeB P k R (sz w.heap.size (shape L)) n D left cnt om oi) (hr : sz w.heap.size (shape (A2 ++ #[om] :: L)) = r) : (wd w (A ++ #[oi] :: (A2 ++ #[om] :: L)) nd).rangeLeft (sz w.heap.size (shape L)) r = cnt := by
  subst hr
  have hb := mid_at w om L nd (A ++ #[oi] :: A2)
  rw [List.append_assoc, List.cons_append] at hb
  exact (h.own _ _ hb (mid_at w oi (A2 ++ #[om] :: L) nd A)).left_eq
theorem mapb_size (h : MapB P k R n D o) : Maps.size D ≤ n := by
  have := h.own ⟨#[o], fun _ _ => 0, 0, default, #[]⟩ 0 (by simp)
  exact this.size_le
end
/-! ### at the operation -/
section
variable {H : Type} {P : Program} {k e t : TypeId} {R : Value → Option (DataW H × List MemPlace)} {w : World} {nd n : Nat} {ob : Obj} {D : DataW H} {ops : Array Oper} {rest : List Oper} {o : Oper} {a : Act} {Q : Exit → Act → World → Prop}
theorem wp_mapUpdate_wd (A L : List (Array Obj)) (hg : o.guard = none) (m x v : Operand) (hop : o.op = Op.mapUpdate t m x v) (K : Keyed P k) (ht : P.underlying t = some (.map k e)) (hm : a.eval m = .map (some (sz w.heap.size (shape L))))
    (hown : MapB P k R n D ob) (hn : n < maxLen) (key val : Value) (kl : Lit) (hx : a.eval x = key) (hv : a.eval v = val) (hkey : keyOf P k key = some kl) (d : DataW H) (ps : List MemPlace) (hval : R val = some (d, ps))
    (hK : ∀ o', MapB P k R (n + 1) (D.put kl d) o' → wpList P ops Q rest (a.put o.dst undef) (wd w (A ++ #[o'] :: L) nd)) : wpList P ops Q (o :: rest) a (wd w (A ++ #[ob] :: L) nd) := by
  refine wpList_plain hg fun K' hK' => ?_
  obtain ⟨o', hrun, r1⟩ := map_store (w := w) (A := A) (L := L) (nd := nd) hown K ht hn hkey hval
  unfold Oper.wp
  simp [execOp, hop, hm, hx, hv, hrun, Result.andThen]
  exact hK' _ _ (hK o' r1)
theorem wp_delete_wd (A L : List (Array Obj)) (hg : o.guard = none) (m x : Operand) (hop : o.op = Op.call { callee := Callee.builtin Builtin.delete, args := #[m, x], argTypes := #[t, k] }) (K : Keyed P k) (ht : P.underlying t = some (.map k e)) (hm : a.eval m = .map (some (sz w.heap.size (shape L))))
    (hown : MapB P k R n D ob) (key : Value) (kl : Lit) (hx : a.eval x = key) (hkey : keyOf P k key = some kl)
    (hK : ∀ o', MapB P k R n (D.del kl) o' → wpList P ops Q rest (a.put o.dst (.tuple #[])) (wd w (A ++ #[o'] :: L) nd)) : wpList P ops Q (o :: rest) a (wd w (A ++ #[ob] :: L) nd) := by
  refine wpList_plain hg fun K' hK' => ?_
  obtain ⟨o', hrun, r1⟩ := map_drop (w := w) (A := A) (L := L) (nd := nd) hown K ht hkey o.type
  unfold Oper.wp
  simp [execOp, hop, resolve, invoke, builtin, hm, hx, hrun, Result.andThen]
  exact hK' _ _ (hK o' r1)
theorem wp_range_wd (A L : List (Array Obj)) (hg : o.guard = none) (m : Operand) (hop : o.op = Op.range t m) (K : Keyed P k) (ht : P.underlying t = some (.map k e)) (hm : a.eval m = .map (some (sz w.heap.size (shape L))))
    (hown : MapB P k R n D ob)
    (hK : ∀ oi, RangeB P k R (sz w.heap.size (shape L)) n D (Maps.has D) (Maps.size D) ob oi → wpList P ops Q rest (a.put o.dst (.pointer (some ⟨sz w.heap.size (shape (A ++ #[ob] :: L)), 0, none⟩))) (wd w (#[oi] :: (A ++ #[ob] :: L)) nd)) : wpList P ops Q (o :: rest) a (wd w (A ++ #[ob] :: L) nd) := by
  refine wpList_plain hg fun K' hK' => ?_
  obtain ⟨oi, hrun, r1⟩ := map_range (w := w) (A := A) (L := L) (nd := nd) hown K ht
  unfold Oper.wp
  simp [execOp, hop, hm, hrun, Result.andThen]
  exact hK' _ _ (hK oi r1)
theorem wp_next_wd (A A2 L : List (Array Obj)) {cnt : Nat} {left : Lit → Bool} {om oi : Obj} (hg : o.guard = none) (it : Operand) (hop : o.op = Op.next it false) (K : Keyed P k) (hit : a.eval it = .pointer (some ⟨sz w.heap.size (shape (A2 ++ #[om] :: L)), 0, none⟩))
    (h : RangeB P k R (sz w.heap.size (shape L)) n D left cnt om oi)
    (hDone : cnt = 0 → (∀ kl, left kl = false) → wpList P ops Q rest (a.put o.dst (.tuple #[.bool false])) (wd w (A ++ #[oi] :: (A2 ++ #[om] :: L)) nd))
    (hMore : ∀ (key v : Value) (kl : Lit) (y : DataW H × List MemPlace) (oi' : Obj) (nd' cnt' : Nat), keyOf P k key = some kl → left kl = true → R v = some y → (∀ zd, D.atKey kl zd = y.1) → RangeB P k R (sz w.heap.size (shape L)) n D (fun x => left x && !x.sameKey kl) cnt' om oi' → cnt' < cnt →
      (Instr.entry (.pointer (some ⟨sz w.heap.size (shape (A2 ++ #[om] :: L)), 0, none⟩))).run P (wd w (A ++ #[oi'] :: (A2 ++ #[om] :: L)) nd') = .ok (.tuple #[key, v]) (wd w (A ++ #[oi'] :: (A2 ++ #[om] :: L)) nd') →
      wpList P ops Q rest (a.put o.dst (.tuple #[.bool true, key, v])) (wd w (A ++ #[oi'] :: (A2 ++ #[om] :: L)) nd')) : wpList P ops Q (o :: rest) a (wd w (A ++ #[oi] :: (A2 ++ #[om] :: L)) nd) := by
  refine wpList_plain hg fun K' hK' => ?_
  unfold Oper.wp
  rcases range_next (w := w) (A := A) (A2 := A2) (L := L) (nd := nd) h K o.type with ⟨h0, hl, hrun⟩ | ⟨key, v, kl, y, oi', nd', cnt', hkey, hlk, hv, hat, hrun, hrg, hlt, hen⟩
  · simp [execOp, hop, hit, hrun, Result.andThen]
    exact hK' _ _ (hDone h0 hl)
  · simp [execOp, hop, hit, hrun, Result.andThen]
    exact hK' _ _ (hMore key v kl y oi' nd' cnt' hkey hlk hv hat hrg hlt hen)
/-- .. the iterator's block named r. -/
theorem wp_next_at (A A2 L : List (Array Obj)) {cnt r : Nat} {left : Lit → Bool} {om oi : Obj} (hg : o.guard = none) (it : Operand) (hop : o.op = Op.next it false) (K : Keyed P k) (hit : a.eval it = .pointer (some ⟨r, 0, none⟩)) (hr : sz w.heap.size (shape (A2 ++ #[om] :: L)) = r)
    (h : RangeB P k R (sz w.heap.size (shape L)) n D left cnt om oi)
    (hDone : cnt = 0 → (∀ kl, left kl = false) → wpList P ops Q rest (a.put o.dst (.tuple #[.bool false])) (wd w (A ++ #[oi] :: (A2 ++ #[om] :: L)) nd))
    (hMore : ∀ (key v : Value) (kl : Lit) (y : DataW H × List MemPlace) (oi' : Obj) (nd' cnt' : Nat), keyOf P k key = some kl → left kl = true → R v = some y → (∀ zd, D.atKey kl zd = y.1) → RangeB P k R (sz w.heap.size (shape L)) n D (fun x => left x && !x.sameKey kl) cnt' om oi' → cnt' < cnt →
      (Instr.entry (.pointer (some ⟨r, 0, none⟩))).run P (wd w (A ++ #[oi'] :: (A2 ++ #[om] :: L)) nd') = .ok (.tuple #[key, v]) (wd w (A ++ #[oi'] :: (A2 ++ #[om] :: L)) nd') →
      wpList P ops Q rest (a.put o.dst (.tuple #[.bool true, key, v])) (wd w (A ++ #[oi'] :: (A2 ++ #[om] :: L)) nd')) : wpList P ops Q (o :: rest) a (wd w (A ++ #[oi] :: (A2 ++ #[om] :: L)) nd) := by
  subst hr
  exact wp_next_wd A A2 L hg it hop K hit h hDone hMore
end
end Go.Proofs.Ytlanghikmccmbaa
/- What a call that writes into an own row leaves, seen around an iterator. -/
namespace Go.Proofs.Ytlanghikmccmbaa
open Go.RowKit
set_option linter.unusedVariables false
set_option linter.unusedSimpArgs false
/-- What an append leaves, seen around an iterator. -/
theorem grown_iter {w W' : World} {L : List (Array Obj)} {n : Nat} {e Y : Array Obj} {I : Obj} {row : Option Nat} (hg : (wd w (e :: #[I] :: Y :: L) n).grownBy W' row)
    (hr : ∀ k, row = some k → sz w.heap.size (shape L) ≤ k ∧ k ≠ sz w.heap.size (shape (Y :: L))) :
    ∃ e' Y' n', Y'.size = Y.size ∧ W' = wd w (e' :: #[I] :: Y' :: L) n' := by
  have hsz : (wd w (e :: #[I] :: Y :: L) n).heap.size = (hp w.heap L).size + Y.size + 1 + e.size := by
    show (((hp w.heap L ++ Y) ++ #[I]) ++ e).size = _
    simp only [Array.size_append]; rfl
  have hN := hg.size
  rw [hsz] at hN
  have hLs : (hp w.heap L).size = sz w.heap.size (shape L) := hp_size _ _
  have hYs : sz w.heap.size (shape (Y :: L)) = (hp w.heap L).size + Y.size := by rw [hLs]; rfl
  refine ⟨W'.heap.extract ((hp w.heap L).size + Y.size + 1) W'.heap.size, W'.heap.extract (hp w.heap L).size ((hp w.heap L).size + Y.size), W'.drawn, ?_, ?_⟩
  · simp only [Array.size_extract]; omega
  · refine world_ext ?_ hg.tape rfl hg.os hg.output
    have hYz : (W'.heap.extract (hp w.heap L).size ((hp w.heap L).size + Y.size)).size = Y.size := by simp only [Array.size_extract]; omega
    apply Array.ext_getElem?
    intro k
    show W'.heap[k]? = (((hp w.heap L ++ _) ++ #[I]) ++ _)[k]?
    have keep : ∀ k, k < (hp w.heap L).size + Y.size + 1 + e.size → (∀ g, row = some g → k ≠ g) → W'.heap[k]? = (wd w (e :: #[I] :: Y :: L) n).heap[k]? := fun k hk hne => hg.block k (by rw [hsz]; exact hk) (fun h => hne k h.symm rfl)
    by_cases h1 : k < (hp w.heap L).size
    · rw [keep k (by omega) (fun g hgr => by have := (hr g hgr).1; omega)]
      have e1 : (wd w (e :: #[I] :: Y :: L) n).heap[k]? = (hp w.heap L)[k]? := by
        show (((hp w.heap L ++ Y) ++ #[I]) ++ e)[k]? = _
        rw [Array.getElem?_append, if_pos (by simp only [Array.size_append]; omega), Array.getElem?_append, if_pos (by simp only [Array.size_append]; omega), Array.getElem?_append, if_pos h1]
      rw [e1, Array.getElem?_append, if_pos (by simp only [Array.size_append, hYz]; omega), Array.getElem?_append, if_pos (by simp only [Array.size_append, hYz]; omega), Array.getElem?_append, if_pos h1]
    · by_cases h2 : k < (hp w.heap L).size + Y.size
      · rw [Array.getElem?_append, if_pos (by simp only [Array.size_append, hYz]; omega), Array.getElem?_append, if_pos (by simp only [Array.size_append, hYz]; omega), Array.getElem?_append, if_neg h1, Array.getElem?_extract]
        rw [if_pos (by omega), show (hp w.heap L).size + (k - (hp w.heap L).size) = k by omega]
      · by_cases h3 : k = (hp w.heap L).size + Y.size
        · rw [keep k (by omega) (fun g hgr => by have := (hr g hgr).2; omega)]
          have e1 : (wd w (e :: #[I] :: Y :: L) n).heap[k]? = some I := by
            show (((hp w.heap L ++ Y) ++ #[I]) ++ e)[k]? = _
            rw [Array.getElem?_append, if_pos (by simp only [Array.size_append]; simp; omega), Array.getElem?_append, if_neg (by simp only [Array.size_append]; omega)]
            simp [Array.size_append, h3]
          rw [e1, Array.getElem?_append, if_pos (by simp only [Array.size_append, hYz]; simp; omega), Array.getElem?_append, if_neg (by simp only [Array.size_append, hYz]; omega)]
          rw [show k - (hp w.heap L ++ W'.heap.extract (hp w.heap L).size ((hp w.heap L).size + Y.size)).size = 0 by rw [Array.size_append, hYz]; omega]
          rfl
        · rw [Array.getElem?_append, if_neg (by simp only [Array.size_append, hYz]; simp; omega), Array.getElem?_extract]
          have hs : ((hp w.heap L ++ W'.heap.extract (hp w.heap L).size ((hp w.heap L).size + Y.size)) ++ #[I]).size = (hp w.heap L).size + Y.size + 1 := by simp only [Array.size_append, hYz]; rfl
          rw [hs]
          by_cases h4 : k < W'.heap.size
          · rw [if_pos (by omega), show (hp w.heap L).size + Y.size + 1 + (k - ((hp w.heap L).size + Y.size + 1)) = k by omega]
          · rw [if_neg (by omega), Array.getElem?_eq_none (by omega)]
end Go.Proofs.Ytlanghikmccmbaa
/- A row of the call's own, sorted: between 'World.ownsRow' and the sort's worlds. -/
namespace Go.Proofs.Ytlanghikmccmbaa
open Go.RowKit Go.Sort
set_option linter.unusedVariables false
set_option linter.unusedSimpArgs false
section
variable {α : Type} [Inhabited α] {enc : α → List Value} {k : Nat}
theorem flatK_list (hk : ∀ x, (enc x).length = k) (h0 : 0 < k) (d : Array α) : (flatK enc k d).toList = d.toList.flatMap enc := by
  apply List.ext_getElem?
  intro t
  have hfl : (d.toList.flatMap enc).length = d.size * k := by rw [flat_len enc k hk, Array.length_toList]
  by_cases ht : t < d.size * k
  · have hq : t / k < d.size := by rw [Nat.div_lt_iff_lt_mul h0]; exact ht
    have hm : t % k < k := Nat.mod_lt _ h0
    have e1 : (flatK enc k d).toList[t]? = some ((enc d[t / k]!)[t % k]!) := by
      rw [← get_flatK enc k d t ht, Array.getElem?_toList, Array.getElem?_eq_getElem (by rw [size_flatK]; exact ht), getElem!_pos _ _ (by rw [size_flatK]; exact ht)]
    have e2 := flat_at enc k hk d.toList (t / k) d[t / k]! (t % k) (by rw [Array.getElem?_toList, Array.getElem?_eq_getElem hq, getElem!_pos d (t / k) hq]) hm
    rw [Nat.div_add_mod' t k] at e2
    rw [e1, e2, List.getElem?_eq_getElem (by rw [hk]; exact hm), getElem!_pos (enc d[t / k]!) (t % k) (by rw [hk]; exact hm)]
  · rw [List.getElem?_eq_none (by rw [Array.length_toList, size_flatK]; omega), List.getElem?_eq_none (by rw [hfl]; omega)]
theorem holdsK_of_owns {W : World} {B g cap : Nat} {E : TypeId} {l : List α} (hk : ∀ x, (enc x).length = k) (h0 : 0 < k) (h : W.ownsRow B E k (.slice (some ⟨g, 0, none⟩) l.length cap) l.length (l.flatMap enc)) : HoldsK enc k W g 0 l.toArray := by
  intro j hj
  rw [size_flatK, List.size_toArray] at hj
  have e := flatK_list hk h0 l.toArray
  refine ⟨?_, owns_frozen h _⟩
  have hjs : j < (flatK enc k l.toArray).size := by rw [size_flatK, List.size_toArray]; exact hj
  have e' : (flatK enc k l.toArray).toList = l.flatMap enc := e
  rw [Nat.zero_add, owns_cell h j hj, ← e', Array.getElem?_toList, Array.getElem?_eq_getElem hjs, getElem!_pos (flatK enc k l.toArray) j hjs]
  rfl
theorem owns_of_sort {W : World} {B g cap n : Nat} {E : TypeId} {l : List α} (hk : ∀ x, (enc x).length = k) (h0 : 0 < k) (h : W.ownsRow B E k (.slice (some ⟨g, 0, none⟩) l.length cap) l.length (l.flatMap enc)) (d : Array α) (hd : d.size = l.length) (os : Array Obj) :
    (sortWorldK enc k W g 0 n d os).ownsRow B E k (.slice (some ⟨g, 0, none⟩) l.length cap) l.length (d.toList.flatMap enc) ∧ W.grownBy (sortWorldK enc k W g 0 n d os) (some g) := by
  obtain ⟨cur, hb, h1, h2, h3, h4, h5, h6⟩ := owns_block h
  have hlt := (Array.getElem?_eq_some_iff.1 hb).1
  have hF := flatK_list hk h0 d
  have hFs : (flatK enc k d).size = l.length * k := by rw [size_flatK, hd]
  have hcs : l.length * k ≤ cur.size := by rw [h4]; exact Nat.mul_le_mul_right _ h2
  have hblk : (sortWorldK enc k W g 0 n d os).heap[g]? = some (.cells (putCells id 0 (flatK enc k d) cur) E (0, 0)) := by
    show ((W.heap.modify g _) ++ os)[g]? = _
    rw [Array.getElem?_append, if_pos (by simpa using hlt), Array.getElem?_modify, if_pos rfl, hb]
    rfl
  refine ⟨⟨by rw [flat_len enc k hk, Array.length_toList, hd], .inr ⟨g, cap, _, rfl, h1, hblk, h2, h3, by simp [putCells, h4], ?_⟩⟩, rfl, rfl, rfl, ?_, fun i hi hne => ?_⟩
  · rw [← hF]
    apply List.ext_getElem?
    intro i
    rw [List.getElem?_take]
    by_cases hi : i < l.length * k
    · rw [if_pos hi, Array.getElem?_toList, Array.getElem?_toList]
      simp only [putCells, Array.getElem?_mapIdx]
      rw [Array.getElem?_eq_getElem (show i < cur.size by omega), Array.getElem?_eq_getElem (show i < (flatK enc k d).size by omega)]
      simp only [Option.map_some, Nat.zero_le, Nat.zero_add, Nat.sub_zero, true_and, hFs, if_pos hi, id]
      rw [getElem!_pos (flatK enc k d) i (by omega)]
    · rw [if_neg hi, List.getElem?_eq_none (by rw [Array.length_toList]; omega)]
  · show W.heap.size ≤ ((W.heap.modify g _) ++ os).size
    simp
  · show ((W.heap.modify g _) ++ os)[i]? = _
    rw [Array.getElem?_append, if_pos (by simpa using hi), Array.getElem?_modify, if_neg (fun e => hne (by rw [e]))]
end
end Go.Proofs.Ytlanghikmccmbaa
