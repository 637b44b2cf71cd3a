/- varnum: the program's reader. -/
import Derived.Test.YtifoekadjnlhcaaGreatDoorMB
import Derived.Lib.SliceRun
import Derived.Test.YtifoekadjnlhcaaGreatDoorMA
namespace Go.Proofs.YtifoekadjnlhcaaGreatDoor
open Go.ChangeShapes Go.WideShapes Go.ChangeAt Go.RowKit
set_option linter.unusedVariables false
set_option linter.unusedSimpArgs false
structure Rdr (w : World) (p : Nat) (v : Value) (e : Int) : Prop where
  at_ : w.heap[p]? = some (.cells #[v, .int .i64 e] 408)
theorem Rdr.lt {w : World} {p : Nat} {v : Value} {e : Int} (h : Rdr w p v e) : p < w.heap.size := (Array.getElem?_eq_some_iff.1 h.at_).1
theorem Rdr.c0 {w : World} {p : Nat} {v : Value} {e : Int} (h : Rdr w p v e) : w.cell? ⟨p, 0, none⟩ = some v := by simp [World.cell?, h.at_]
theorem Rdr.c1 {w : World} {p : Nat} {v : Value} {e : Int} (h : Rdr w p v e) : w.cell? ⟨p, 1, none⟩ = some (.int .i64 e) := by simp [World.cell?, h.at_]
theorem Rdr.c2 {w : World} {p : Nat} {v : Value} {e : Int} (h : Rdr w p v e) (i : Nat) : w.cell? ⟨p, i + 2, none⟩ = none := by simp [World.cell?, h.at_]
theorem Rdr.f {w : World} {p : Nat} {v : Value} {e : Int} (h : Rdr w p v e) (i : Nat) : w.frozen? ⟨p, i, none⟩ = false := by simp [World.frozen?, h.at_]
theorem Rdr.more {w w' : World} {p : Nat} {v : Value} {e : Int} (h : Rdr w p v e) (hm : More w w') : Rdr w' p v e := by
  obtain ⟨x, n, rfl⟩ := hm
  exact ⟨by rw [plus_block _ _ _ _ h.lt]; exact h.at_⟩
def rset (w : World) (p : Nat) (v : Value) (e : Int) : World := (w.setCell ⟨p, 0, none⟩ v).setCell ⟨p, 1, none⟩ (.int .i64 e)
theorem rset_block {w : World} {p : Nat} {v : Value} {e : Int} (h : Rdr w p v e) (v' : Value) (e' : Int) : (rset w p v' e').heap[p]? = some (.cells #[v', .int .i64 e'] 408) := by
  simp [rset, World.setCell, Array.getElem?_modify, h.at_]
theorem rset_other (w : World) (p b : Nat) (v : Value) (e : Int) (h : b ≠ p) : (rset w p v e).heap[b]? = w.heap[b]? := by
  simp [rset, World.setCell, Array.getElem?_modify, Ne.symm h]
theorem Rdr.rset {w : World} {p : Nat} {v : Value} {e : Int} (h : Rdr w p v e) (v' : Value) (e' : Int) : Rdr (rset w p v' e') p v' e' := ⟨rset_block h v' e'⟩
@[go_sem] theorem rset_size (w : World) (p : Nat) (v : Value) (e : Int) : (rset w p v e).heap.size = w.heap.size := by simp [Go.Proofs.YtifoekadjnlhcaaGreatDoor.rset, World.setCell]
@[go_sem] theorem rset_drawn (w : World) (p : Nat) (v : Value) (e : Int) : (rset w p v e).drawn = w.drawn := rfl
theorem RB.rset {w : World} {p : Nat} {v u : Value} {e : Int} {l : List UInt8} (h : RB w u l) (hr : Rdr w p v e) (hv : ∀ n, v ≠ .int .u8 n) (v' : Value) (e' : Int) : RB (rset w p v' e') u l := by
  obtain ⟨a, cap, hu, h1, h2, h3⟩ := h
  refine ⟨a, cap, hu, h1, h2, fun hne => ?_⟩
  obtain ⟨b, off, ha, hb, hc⟩ := h3 hne
  refine ⟨b, off, ha, by rw [rset_size]; exact hb, fun i hi => ?_⟩
  have hbp : b ≠ p := by
    intro h; subst h
    have h0 := hc 0 (by cases l with | nil => exact absurd rfl hne | cons _ _ => simp)
    rw [bc_get] at h0
    cases l with
    | nil => exact hne rfl
    | cons x l =>
      rw [Nat.add_zero] at h0
      match off, h0 with
      | 0, h0 => rw [hr.c0] at h0; simp at h0; exact hv _ h0
      | 1, h0 => rw [hr.c1] at h0; simp at h0
      | k + 2, h0 => rw [hr.c2] at h0; simp at h0
  rw [← hc i hi]
  simp only [World.cell?, rset_other w p b v' e' hbp]
@[go_sem] theorem rset_wd_old (w : World) (L : List (Array Obj)) (n p : Nat) (v : Value) (e : Int) (hp : p < w.heap.size) : rset (wd w L n) p v e = wd (rset w p v e) L n := by
  unfold rset
  rw [wd_set_old w L n p 0 v hp, wd_set_old _ L n p 1 _ (by simpa [World.setCell] using hp)]
@[go_sem] theorem rset_wd (w : World) (L : List (Array Obj)) (n B : Nat) (S : List Nat) (u1 u2 : Value) (t : TypeId) (v : Value) (e : Int) (hB : B = w.heap.size) (hS : shape L = S) :
    rset (wd w (#[.cells #[u1, u2] t] :: L) n) (sz B S) v e = wd w (#[.cells #[v, .int .i64 e] t] :: L) n := by
  unfold rset
  rw [wd_set w L n B 0 S _ t (0, 0) v hB hS, wd_set w L n B 1 S _ t (0, 0) _ hB hS]
  rfl
@[go_sem] theorem rset_wd_past (w : World) (L : List (Array Obj)) (n B : Nat) (S : List Nat) (s : Array Obj) (v : Value) (e : Int) (hB : B = w.heap.size) (hS : inn S (shape L)) :
    rset (wd w (s :: L) n) (sz B S) v e = onTop s (rset (wd w L n) (sz B S) v e) := by
  have hlt : sz B S < (wd w L n).heap.size := by subst hB; rw [wd_size]; exact inn_lt _ hS
  have e1 : wd w (s :: L) n = plus (wd w L n) s n := rfl
  rw [e1]
  unfold rset onTop
  rw [plus_setCell _ _ _ _ _ _ hlt, plus_setCell _ _ _ _ _ _ (by simpa [World.setCell] using hlt)]
  rfl
@[go_sem] theorem rset_plus (w : World) (x : Array Obj) (n p : Nat) (v : Value) (e : Int) (hp : p < w.heap.size) : rset (plus w x n) p v e = plus (rset w p v e) x n := by
  unfold rset
  rw [plus_setCell _ _ _ _ _ _ hp, plus_setCell _ _ _ _ _ _ (by simpa [World.setCell] using hp)]
theorem setCell_self {w : World} {p i : Nat} {v : Value} (h : w.cell? ⟨p, i, none⟩ = some v) : w.setCell ⟨p, i, none⟩ v = w := by
  refine world_ext ?_ rfl rfl rfl rfl
  simp only [World.setCell]
  apply Array.ext_getElem?
  intro j
  rw [Array.getElem?_modify]
  by_cases hj : p = j
  · subst hj
    rw [if_pos rfl]
    simp only [World.cell?] at h
    cases ho : w.heap[p]? with
    | none => rfl
    | some o =>
      rw [ho] at h
      cases o <;> simp at h ⊢
      apply Array.ext_getElem?
      intro j
      rw [Array.getElem?_setIfInBounds]
      split
      · rename_i hij
        subst hij
        rw [h]
        obtain ⟨hl, _⟩ := Array.getElem?_eq_some_iff.1 h
        simp [hl]
      · rfl
  · rw [if_neg hj]
@[go_sem] theorem rset_rset (w : World) (p : Nat) (v v' : Value) (e e' : Int) : rset (rset w p v e) p v' e' = rset w p v' e' := by
  refine world_ext ?_ rfl rfl rfl rfl
  apply Array.ext_getElem?
  intro j
  simp only [rset, World.setCell, Array.getElem?_modify]
  by_cases hj : p = j
  · subst hj
    simp only [if_true]
    cases ho : w.heap[p]? with
    | none => rfl
    | some o =>
      cases o <;> simp
      apply Array.ext_getElem?
      intro i
      simp only [Array.getElem?_setIfInBounds, Array.size_setIfInBounds]
      split <;> split <;> simp_all
  · simp [hj]
structure Took (w w' : World) (p : Nat) (v : Value) (l l' : List UInt8) (e' : Int) : Prop where
  out : ∃ v', (∀ W0, RB W0 v l → RB W0 v' l') ∧ ∃ m : Ext, w' = plus (rset w p v' e') m.e m.n
@[go_sem] theorem rset_set1 (w : World) (p : Nat) (v : Value) (e e' : Int) : (rset w p v e).setCell ⟨p, 1, none⟩ (.int .i64 e') = rset w p v e' := by
  refine world_ext ?_ rfl rfl rfl rfl
  apply Array.ext_getElem?
  intro j
  simp only [rset, World.setCell, Array.getElem?_modify]
  by_cases hj : p = j
  · subst hj
    simp only [if_true]
    cases ho : w.heap[p]? with
    | none => rfl
    | some o => cases o <;> simp
  · simp [hj]
@[go_sem] theorem rset_set0 (w : World) (p : Nat) (v v' : Value) (e : Int) : (rset w p v e).setCell ⟨p, 0, none⟩ v' = rset w p v' e := by
  refine world_ext ?_ rfl rfl rfl rfl
  apply Array.ext_getElem?
  intro j
  simp only [rset, World.setCell, Array.getElem?_modify]
  by_cases hj : p = j
  · subst hj
    simp only [if_true]
    cases ho : w.heap[p]? with
    | none => rfl
    | some o =>
      cases o <;> simp
      apply Array.ext_getElem?
      intro i
      simp only [Array.getElem?_setIfInBounds, Array.size_setIfInBounds]
      by_cases h1 : 1 = i
      · subst h1; simp
      · by_cases h0 : 0 = i
        · subst h0; simp
        · simp [h0, h1]
  · simp [hj]
def takeB (l : List UInt8) (n : Int) : List UInt8 := if (l.length : Int) < n then [] else l.take n.toNat
def takeL (l : List UInt8) (n : Int) : List UInt8 := if (l.length : Int) < n then l else l.drop n.toNat
def takeE (l : List UInt8) (e n : Int) : Int := if (l.length : Int) < n then 3 else e
structure Take (w w' : World) (x : Ending) (p : Nat) (v : Value) (l : List UInt8) (e n : Int) : Prop where
  out : ∃ u v', x = .returned u ∧ (∀ W0, RB W0 v l → RB W0 u (takeB l n)) ∧ (∀ W0, RB W0 v l → RB W0 v' (takeL l n)) ∧ w' = rset w p v' (takeE l e n)
theorem rowIn_slice {B : Nat} {S : List Nat} {e : Array Obj} {E : TypeId} {size : Nat} {v : Value} {n : Nat} {xs : List Value} (h : rowIn B S e E size v n xs) : ∃ a cap, v = .slice a n cap := by
  rcases h.2 with ⟨rfl, rfl⟩ | ⟨j, cap, cur, rfl, _⟩
  · exact ⟨_, _, rfl⟩
  · exact ⟨_, _, rfl⟩
structure NewRd (w w' : World) (x : Ending) (l : List UInt8) : Prop where
  out : ∃ (v' : Value) (m : Ext), x = .returned (.pointer (some ⟨sz w.heap.size [m.e.size], 0, none⟩)) ∧ rowIn w.heap.size [] m.e 5 1 v' l.length (Lib.byteCells l) ∧ w' = wd w [#[.cells #[v', .int .i64 0] 408], m.e] m.n
theorem NewRd.wd {w w' : World} {L : List (Array Obj)} {k : Nat} {x : Ending} {l : List UInt8} (h : NewRd (wd w L k) w' x l) : ∃ (v' : Value) (m : Ext), x = .returned (.pointer (some ⟨sz w.heap.size (m.e.size :: shape L), 0, none⟩)) ∧ rowIn w.heap.size (shape L) m.e 5 1 v' l.length (Lib.byteCells l) ∧ w' = Go.Proofs.YtifoekadjnlhcaaGreatDoor.wd w (#[.cells #[v', .int .i64 0] 408] :: m.e :: L) m.n := by
  obtain ⟨v', m, hx, hr, rfl⟩ := h.out
  rw [wd_size] at hx hr
  exact ⟨v', m, hx, row_base hr, rfl⟩
abbrev BRow (w : World) (L : List (Array Obj)) (m : Array Obj) (v : Value) (l : List UInt8) : Prop := rowIn w.heap.size (shape L) m 5 1 v l.length (Lib.byteCells l)
structure BRet (w w' : World) (x : Ending) (l : List UInt8) (e : Int) : Prop where
  out : ∃ v, x = .returned (.tuple #[v, .int .i64 e]) ∧ BMade w w' v l
theorem BRet.more {w w' : World} {x : Ending} {l : List UInt8} {e : Int} (h : BRet w w' x l e) : More w w' := by obtain ⟨v, _, hm⟩ := h.out; exact hm.more
section
variable {ops : Array Oper} {rest : List Oper} {o : Oper} {a : Act} {Q : Exit → Act → World → Prop} {w : World} {L : List (Array Obj)} {n : Nat} {m m1 : Array Obj} {v u : Value} {l l2 : List UInt8}
end
end Go.Proofs.YtifoekadjnlhcaaGreatDoor
namespace Go.Proofs.YtifoekadjnlhcaaGreatDoor
open Go.ChangeShapes Go.WideShapes Go.ChangeAt Go.RowKit
set_option linter.unusedVariables false
set_option linter.unusedSimpArgs false
structure RowAt {α : Type} (cells : α → List Value) (size : Nat) (w : World) (a : Option Addr) (l : List α) : Prop where
  out : l ≠ [] → ∃ b off, a = some ⟨b, off, none⟩ ∧ b < w.heap.size ∧ ∀ i, i < l.length * size → w.cell? ⟨b, off + i, none⟩ = (l.flatMap cells)[i]?
section
variable {α : Type} {cells : α → List Value} {size : Nat} {w w' : World} {a : Option Addr} {l : List α}
theorem RowAt.more (h : RowAt cells size w a l) (hm : More w w') : RowAt cells size w' a l := by
  refine ⟨fun hne => ?_⟩
  obtain ⟨b, off, ha, hb, hc⟩ := h.out hne
  have bel := hm.below
  exact ⟨b, off, ha, Nat.lt_of_lt_of_le hb bel.size, fun i hi => by rw [bel.cell hb]; exact hc i hi⟩
theorem RowAt.nil (a : Option Addr) : RowAt cells size w a [] := ⟨fun h => absurd rfl h⟩
theorem RowAt.at (h : RowAt cells size w a l) (hs : ∀ x, (cells x).length = size) (k : Nat) (x : α) (hx : l[k]? = some x) : ∃ b off, a = some ⟨b, off, none⟩ ∧ b < w.heap.size ∧ ∀ j, j < size → w.cell? ⟨b, off + (k * size + j), none⟩ = (cells x)[j]? := by
  have hk : k < l.length := (List.getElem?_eq_some_iff.1 hx).1
  obtain ⟨b, off, ha, hb, hc⟩ := h.out (by intro h; subst h; simp at hk)
  refine ⟨b, off, ha, hb, fun j hj => ?_⟩
  have h1 : (k + 1) * size ≤ l.length * size := Nat.mul_le_mul_right _ hk
  rw [Nat.succ_mul] at h1
  rw [hc (k * size + j) (by omega)]
  exact flat_at cells size hs l k x j hx hj
theorem RowAt.rd (h : RowAt cells size w a l) (hs : ∀ x, (cells x).length = size) (cap : Nat) : RdRow w size (.slice a l.length cap) l.length (l.flatMap cells) := by
  refine ⟨flat_len cells size hs l, ?_⟩
  by_cases hne : l = []
  · subst hne; exact .inl ⟨rfl, a, cap, rfl⟩
  · obtain ⟨b, off, ha, hb, hc⟩ := h.out hne
    exact .inr ⟨b, off, cap, by rw [ha], hb, hc⟩
theorem RowAt.of_rd {cap : Nat} (h : RdRow w size (.slice a l.length cap) l.length (l.flatMap cells)) : RowAt cells size w a l := by
  refine ⟨fun hne => ?_⟩
  obtain ⟨_, ⟨h0, _⟩ | ⟨b, off, c, hv, hb, hc⟩⟩ := h
  · exact absurd (List.eq_nil_of_length_eq_zero h0) hne
  · cases hv; exact ⟨b, off, rfl, hb, hc⟩
end
def From {α : Type} (B : Nat) (a : Option Addr) (l : List α) : Prop := l ≠ [] → ∃ b off, a = some ⟨b, off, none⟩ ∧ B ≤ b
theorem From.nil {α : Type} (B : Nat) (a : Option Addr) : From B a ([] : List α) := fun h => absurd rfl h
theorem From.le {α : Type} {B B' : Nat} {a : Option Addr} {l : List α} (h : From B a l) (hb : B' ≤ B) : From B' a l := fun hne => by
  obtain ⟨b, off, ha, h1⟩ := h hne; exact ⟨b, off, ha, Nat.le_trans hb h1⟩
abbrev RecsAt (w : World) (a : Option Addr) (l : List Rec) : Prop := RowAt recCells 6 w a l
theorem recs_at {w : World} {a : Option Addr} {l : List Rec} (h : RecsAt w a l) (k : Nat) (x : Rec) (hx : l[k]? = some x) : ∃ b off, a = some ⟨b, off, none⟩ ∧ b < w.heap.size ∧
    w.cell? ⟨b, off + k * 6, none⟩ = some (.int .i64 x.delta) ∧ w.cell? ⟨b, off + k * 6 + 1, none⟩ = some (.int .i64 x.time) ∧ w.cell? ⟨b, off + k * 6 + 2, none⟩ = some (.bool x.keyed) ∧
    w.cell? ⟨b, off + k * 6 + 3, none⟩ = some (.string (str x.key)) ∧ w.cell? ⟨b, off + k * 6 + 4, none⟩ = some (.bool x.dead) ∧ w.cell? ⟨b, off + k * 6 + 5, none⟩ = some (.string (str x.value)) := by
  obtain ⟨b, off, ha, hb, g⟩ := h.at recCells_len k x hx
  exact ⟨b, off, ha, hb, g 0 (by omega), g 1 (by omega), g 2 (by omega), g 3 (by omega), g 4 (by omega), g 5 (by omega)⟩
structure Bat where
  base : Int
  count : Int
  producer : Int
  epoch : Int
  seq : Int
  recs : List Rec
def Bat.zero : Bat := ⟨0, 0, 0, 0, 0, []⟩
instance : Inhabited Bat := ⟨Bat.zero⟩
def batHead (b : Bat) : List Int := [b.base, b.count, b.producer, b.epoch, b.seq, b.recs.length]
def numsB (l : List Int) : List UInt8 := l.flatMap put
def recsB (l : List Rec) : List UInt8 := l.flatMap fun r => (recPut r).1
def batLay (b : Bat) : List UInt8 := numsB (batHead b) ++ recsB b.recs
def batNum (b : Bat) : Int :=
  if b.count < 1 ∨ 32 < b.count ∨ b.base < 0 ∨ 4611686018427387903 - b.count < b.base then 11
  else if b.producer < 0 ∨ 1099511627776 < b.producer ∨ b.epoch < 0 ∨ 32767 < b.epoch ∨ b.seq < 0 ∨ 2147483647 < b.seq then 11
  else if b.producer = 0 ∧ (b.epoch ≠ 0 ∨ b.seq ≠ 0) then 4
  else if b.count < b.recs.length then 5 else 0
def chk (last count : Int) : List Rec → Int
  | [] => 0
  | r :: rs => if recCheck r ≠ 0 then recCheck r else if r.delta ≤ last ∨ count ≤ r.delta then 16 else chk r.delta count rs
def batCheck (b : Bat) : Int :=
  if batNum b ≠ 0 then batNum b else if chk (-1) b.count b.recs ≠ 0 then chk (-1) b.count b.recs else if 8192 < (batLay b).length then 5 else 0
def batPut (b : Bat) : List UInt8 × Int := if batCheck b ≠ 0 then ([], batCheck b) else (batLay b, 0)
def Bat.wf (b : Bat) : Prop := I64 b.base ∧ I64 b.count ∧ I64 b.producer ∧ I64 b.epoch ∧ I64 b.seq
theorem chk_cons (last count : Int) (r : Rec) (rs : List Rec) : chk last count (r :: rs) = if recCheck r ≠ 0 then recCheck r else if r.delta ≤ last ∨ count ≤ r.delta then 16 else chk r.delta count rs := rfl
end Go.Proofs.YtifoekadjnlhcaaGreatDoor
namespace Go.Proofs.YtifoekadjnlhcaaGreatDoor
open Go.ChangeShapes Go.WideShapes Go.ChangeAt Go.RowKit
set_option linter.unusedVariables false
set_option linter.unusedSimpArgs false
theorem str_toList (l : List UInt8) : (str l).toList = l := by rw [Lib.toList_data, str_data]
abbrev recV (r : Rec) : Value := .agg #[.int .i64 r.delta, .int .i64 r.time, .bool r.keyed, .string (str r.key), .bool r.dead, .string (str r.value)]
end Go.Proofs.YtifoekadjnlhcaaGreatDoor
