/- varnum: the program's reader. -/
import Derived.Test.YtlanghikmccmbaaMB
import Derived.Lib.SliceRun
import Derived.Test.YtlanghikmccmbaaMA
namespace Go.Proofs.Ytlanghikmccmbaa
open Go.ChangeShapes Go.WideShapes Go.ChangeAt Go.RowKit
set_option linter.unusedVariables false
set_option linter.unusedSimpArgs false

/-- A reader at the block p. -/
structure Rdr (w : World) (p : Nat) (v : Value) (e : Int) : Prop where
  at_ : w.heap[p]? = some (.cells #[v, .int .i64 e] 123)
theorem Rdr.lt {w : World} {p : Nat} {v : Value} {e : Int} (h : Rdr w p v e) : p < w.heap.size := (Array.getElem?_eq_some_iff.1 h.at_).1
theorem Rdr.c0 {w : World} {p : Nat} {v : Value} {e : Int} (h : Rdr w p v e) : w.cell? ⟨p, 0, none⟩ = some v := by simp [World.cell?, h.at_]
theorem Rdr.c1 {w : World} {p : Nat} {v : Value} {e : Int} (h : Rdr w p v e) : w.cell? ⟨p, 1, none⟩ = some (.int .i64 e) := by simp [World.cell?, h.at_]
theorem Rdr.c2 {w : World} {p : Nat} {v : Value} {e : Int} (h : Rdr w p v e) (i : Nat) : w.cell? ⟨p, i + 2, none⟩ = none := by simp [World.cell?, h.at_]
theorem Rdr.f {w : World} {p : Nat} {v : Value} {e : Int} (h : Rdr w p v e) (i : Nat) : w.frozen? ⟨p, i, none⟩ = false := by simp [World.frozen?, h.at_]
theorem Rdr.more {w w' : World} {p : Nat} {v : Value} {e : Int} (h : Rdr w p v e) (hm : More w w') : Rdr w' p v e := by
  obtain ⟨x, n, rfl⟩ := hm
  exact ⟨by rw [plus_block _ _ _ _ h.lt]; exact h.at_⟩
/-- The reader's block, written. -/
def rset (w : World) (p : Nat) (v : Value) (e : Int) : World := (w.setCell ⟨p, 0, none⟩ v).setCell ⟨p, 1, none⟩ (.int .i64 e)
theorem rset_block {w : World} {p : Nat} {v : Value} {e : Int} (h : Rdr w p v e) (v' : Value) (e' : Int) : (rset w p v' e').heap[p]? = some (.cells #[v', .int .i64 e'] 123) := by
  simp [rset, World.setCell, Array.getElem?_modify, h.at_]
theorem rset_other (w : World) (p b : Nat) (v : Value) (e : Int) (h : b ≠ p) : (rset w p v e).heap[b]? = w.heap[b]? := by
  simp [rset, World.setCell, Array.getElem?_modify, Ne.symm h]
theorem Rdr.rset {w : World} {p : Nat} {v : Value} {e : Int} (h : Rdr w p v e) (v' : Value) (e' : Int) : Rdr (rset w p v' e') p v' e' := ⟨rset_block h v' e'⟩
@[go_sem] theorem rset_size (w : World) (p : Nat) (v : Value) (e : Int) : (rset w p v e).heap.size = w.heap.size := by simp [Go.Proofs.Ytlanghikmccmbaa.rset, World.setCell]
@[go_sem] theorem rset_drawn (w : World) (p : Nat) (v : Value) (e : Int) : (rset w p v e).drawn = w.drawn := rfl
theorem RB.rset {w : World} {p : Nat} {v u : Value} {e : Int} {l : List UInt8} (h : RB w u l) (hr : Rdr w p v e) (hv : ∀ n, v ≠ .int .u8 n) (v' : Value) (e' : Int) : RB (rset w p v' e') u l := by
  obtain ⟨a, cap, hu, h1, h2, h3⟩ := h
  refine ⟨a, cap, hu, h1, h2, fun hne => ?_⟩
  obtain ⟨b, off, ha, hb, hc⟩ := h3 hne
  refine ⟨b, off, ha, by rw [rset_size]; exact hb, fun i hi => ?_⟩
  have hbp : b ≠ p := by
    intro h; subst h
    have h0 := hc 0 (by cases l with | nil => exact absurd rfl hne | cons _ _ => simp)
    rw [bc_get] at h0
    cases l with
    | nil => exact hne rfl
    | cons x l =>
      rw [Nat.add_zero] at h0
      match off, h0 with
      | 0, h0 => rw [hr.c0] at h0; simp at h0; exact hv _ h0
      | 1, h0 => rw [hr.c1] at h0; simp at h0
      | k + 2, h0 => rw [hr.c2] at h0; simp at h0
  rw [← hc i hi]
  simp only [World.cell?, rset_other w p b v' e' hbp]
@[go_sem] theorem rset_wd_old (w : World) (L : List (Array Obj)) (n p : Nat) (v : Value) (e : Int) (hp : p < w.heap.size) : rset (wd w L n) p v e = wd (rset w p v e) L n := by
  unfold rset
  rw [wd_set_old w L n p 0 v hp, wd_set_old _ L n p 1 _ (by simpa [World.setCell] using hp)]
@[go_sem] theorem rset_wd (w : World) (L : List (Array Obj)) (n B : Nat) (S : List Nat) (u1 u2 : Value) (t : TypeId) (v : Value) (e : Int) (hB : B = w.heap.size) (hS : shape L = S) :
    rset (wd w (#[.cells #[u1, u2] t] :: L) n) (sz B S) v e = wd w (#[.cells #[v, .int .i64 e] t] :: L) n := by
  unfold rset
  rw [wd_set w L n B 0 S _ t (0, 0) v hB hS, wd_set w L n B 1 S _ t (0, 0) _ hB hS]
  rfl
@[go_sem] theorem rset_wd_past (w : World) (L : List (Array Obj)) (n B : Nat) (S : List Nat) (s : Array Obj) (v : Value) (e : Int) (hB : B = w.heap.size) (hS : inn S (shape L)) :
    rset (wd w (s :: L) n) (sz B S) v e = onTop s (rset (wd w L n) (sz B S) v e) := by
  have hlt : sz B S < (wd w L n).heap.size := by subst hB; rw [wd_size]; exact inn_lt _ hS
  have e1 : wd w (s :: L) n = plus (wd w L n) s n := rfl
  rw [e1]
  unfold rset onTop
  rw [plus_setCell _ _ _ _ _ _ hlt, plus_setCell _ _ _ _ _ _ (by simpa [World.setCell] using hlt)]
  rfl
@[go_sem] theorem rset_plus (w : World) (x : Array Obj) (n p : Nat) (v : Value) (e : Int) (hp : p < w.heap.size) : rset (plus w x n) p v e = plus (rset w p v e) x n := by
  unfold rset
  rw [plus_setCell _ _ _ _ _ _ hp, plus_setCell _ _ _ _ _ _ (by simpa [World.setCell] using hp)]
@[go_sem] theorem rset_rset (w : World) (p : Nat) (v v' : Value) (e e' : Int) : rset (rset w p v e) p v' e' = rset w p v' e' := by
  refine world_ext ?_ rfl rfl rfl rfl
  apply Array.ext_getElem?
  intro j
  simp only [rset, World.setCell, Array.getElem?_modify]
  by_cases hj : p = j
  · subst hj
    simp only [if_true]
    cases ho : w.heap[p]? with
    | none => rfl
    | some o =>
      cases o <;> simp
      apply Array.ext_getElem?
      intro i
      simp only [Array.getElem?_setIfInBounds, Array.size_setIfInBounds]
      split <;> split <;> simp_all
  · simp [hj]
/-- A reader's step: what it left. -/
structure Took (w w' : World) (p : Nat) (v : Value) (l l' : List UInt8) (e' : Int) : Prop where
  out : ∃ v', (∀ W0, RB W0 v l → RB W0 v' l') ∧ ∃ m : Ext, w' = plus (rset w p v' e') m.e m.n
end Go.Proofs.Ytlanghikmccmbaa
/- varnum: the program's reader: what is taken off, a byte, a text; a new reader. -/
namespace Go.Proofs.Ytlanghikmccmbaa
open Go.ChangeShapes Go.WideShapes Go.ChangeAt Go.RowKit
set_option linter.unusedVariables false
set_option linter.unusedSimpArgs false

@[go_sem] theorem rset_set1 (w : World) (p : Nat) (v : Value) (e e' : Int) : (rset w p v e).setCell ⟨p, 1, none⟩ (.int .i64 e') = rset w p v e' := by
  refine world_ext ?_ rfl rfl rfl rfl
  apply Array.ext_getElem?
  intro j
  simp only [rset, World.setCell, Array.getElem?_modify]
  by_cases hj : p = j
  · subst hj
    simp only [if_true]
    cases ho : w.heap[p]? with
    | none => rfl
    | some o => cases o <;> simp
  · simp [hj]
@[go_sem] theorem rset_set0 (w : World) (p : Nat) (v v' : Value) (e : Int) : (rset w p v e).setCell ⟨p, 0, none⟩ v' = rset w p v' e := by
  refine world_ext ?_ rfl rfl rfl rfl
  apply Array.ext_getElem?
  intro j
  simp only [rset, World.setCell, Array.getElem?_modify]
  by_cases hj : p = j
  · subst hj
    simp only [if_true]
    cases ho : w.heap[p]? with
    | none => rfl
    | some o =>
      cases o <;> simp
      apply Array.ext_getElem?
      intro i
      simp only [Array.getElem?_setIfInBounds, Array.size_setIfInBounds]
      by_cases h1 : 1 = i
      · subst h1; simp
      · by_cases h0 : 0 = i
        · subst h0; simp
        · simp [h0, h1]
  · simp [hj]
theorem RB.nu {w : World} {v : Value} {l : List UInt8} (h : RB w v l) : ∀ n, v ≠ .int .u8 n := by
  obtain ⟨a, cap, rfl, _⟩ := h
  intro n h; cases h
/-! ### take -/
def takeB (l : List UInt8) (n : Int) : List UInt8 := if (l.length : Int) < n then [] else l.take n.toNat
def takeL (l : List UInt8) (n : Int) : List UInt8 := if (l.length : Int) < n then l else l.drop n.toNat
def takeE (l : List UInt8) (e n : Int) : Int := if (l.length : Int) < n then 3 else e
structure Take (w w' : World) (x : Ending) (p : Nat) (v : Value) (l : List UInt8) (e n : Int) : Prop where
  out : ∃ u v', x = .returned u ∧ (∀ W0, RB W0 v l → RB W0 u (takeB l n)) ∧ (∀ W0, RB W0 v l → RB W0 v' (takeL l n)) ∧ w' = rset w p v' (takeE l e n)
end Go.Proofs.Ytlanghikmccmbaa
/- varnum: bytes.Clone, a new reader. -/
namespace Go.Proofs.Ytlanghikmccmbaa
open Go.ChangeShapes Go.WideShapes Go.ChangeAt Go.RowKit
set_option linter.unusedVariables false
set_option linter.unusedSimpArgs false

theorem rowIn_slice {B : Nat} {S : List Nat} {e : Array Obj} {E : TypeId} {size : Nat} {v : Value} {n : Nat} {xs : List Value} (h : rowIn B S e E size v n xs) : ∃ a cap, v = .slice a n cap := by
  rcases h.2 with ⟨rfl, rfl⟩ | ⟨j, cap, cur, rfl, _⟩
  · exact ⟨_, _, rfl⟩
  · exact ⟨_, _, rfl⟩
/-- A new reader, seen from its caller. -/
structure NewRd (w w' : World) (x : Ending) (l : List UInt8) : Prop where
  out : ∃ (v' : Value) (m : Ext), x = .returned (.pointer (some ⟨sz w.heap.size [m.e.size], 0, none⟩)) ∧ rowIn w.heap.size [] m.e 5 1 v' l.length (Lib.byteCells l) ∧ w' = wd w [#[.cells #[v', .int .i64 0] 123], m.e] m.n
theorem NewRd.wd {w w' : World} {L : List (Array Obj)} {k : Nat} {x : Ending} {l : List UInt8} (h : NewRd (wd w L k) w' x l) : ∃ (v' : Value) (m : Ext), x = .returned (.pointer (some ⟨sz w.heap.size (m.e.size :: shape L), 0, none⟩)) ∧ rowIn w.heap.size (shape L) m.e 5 1 v' l.length (Lib.byteCells l) ∧ w' = Go.Proofs.Ytlanghikmccmbaa.wd w (#[.cells #[v', .int .i64 0] 123] :: m.e :: L) m.n := by
  obtain ⟨v', m, hx, hr, rfl⟩ := h.out
  rw [wd_size] at hx hr
  exact ⟨v', m, hx, row_base hr, rfl⟩
end Go.Proofs.Ytlanghikmccmbaa
/- Appends of bytes to a row of the call's own: what a callee made, a string, one byte. And byte results with an error. -/
namespace Go.Proofs.Ytlanghikmccmbaa
open Go.ChangeShapes Go.WideShapes Go.ChangeAt Go.RowKit
set_option linter.unusedVariables false
set_option linter.unusedSimpArgs false

/-- The bytes l lie in the piece m above L, behind the slice v. -/
abbrev BRow (w : World) (L : List (Array Obj)) (m : Array Obj) (v : Value) (l : List UInt8) : Prop := rowIn w.heap.size (shape L) m 5 1 v l.length (Lib.byteCells l)
/-- A byte slice and an error, handed back. -/
structure BRet (w w' : World) (x : Ending) (l : List UInt8) (e : Int) : Prop where
  out : ∃ v, x = .returned (.tuple #[v, .int .i64 e]) ∧ BMade w w' v l
theorem BRet.more {w w' : World} {x : Ending} {l : List UInt8} {e : Int} (h : BRet w w' x l e) : More w w' := by obtain ⟨v, _, hm⟩ := h.out; exact hm.more
section
variable {ops : Array Oper} {rest : List Oper} {o : Oper} {a : Act} {Q : Exit → Act → World → Prop} {w : World} {L : List (Array Obj)} {n : Nat} {m m1 : Array Obj} {v u : Value} {l l2 : List UInt8}
/-- 'append(v, u...)', u made just now. -/
theorem at_append (hgd : o.guard = none) (s x : Operand) (ho : o.op = .call { callee := .builtin .append, args := #[s, x], argTypes := #[48, 48] })
    (hs : a.eval s = v) (hrow : BRow w L m v l) (hx : a.eval x = u) (hsrc : BRow w (m :: L) m1 u l2) (hlen : l.length + l2.length ≤ 1099511627776)
    (h : ∀ (v' : Value) (m' : Ext), BRow w L m'.e v' (l ++ l2) → wpList Try.prog ops Q rest (a.put o.dst v') (wd w (m'.e :: L) m'.n)) :
    wpList Try.prog ops Q (o :: rest) a (wd w (m1 :: m :: L) n) := by
  obtain ⟨i0, hi, hz0, hz1, hz2⟩ := info_parts info_u8
  refine wp_append_src hgd s x 48 ho 5 i0 _ 1 1 Try.underlying48 hi hz0 hz1 hz2 rfl (by decide) (wd_merge w m m1 L n) v _ _ hs (rowIn_more hrow m1) u _ _ hx (rdrow_of_row (L := m :: L) hsrc) (bc_one _) (by unfold maxLen; omega) (by omega) ?_
  intro v' m' hr
  exact h v' m' (row_bytes hr _ (bc_append _ _).symm)
/-- A row's place hangs on the number beneath it alone. -/
theorem rowIn_sz {B B' : Nat} {S S' : List Nat} {e : Array Obj} {E : TypeId} {size : Nat} {v : Value} {n : Nat} {xs : List Value} (hS : sz B S = sz B' S') (h : rowIn B S e E size v n xs) : rowIn B' S' e E size v n xs := by
  obtain ⟨h1, h2⟩ := h
  refine ⟨h1, ?_⟩
  rcases h2 with h2 | ⟨j, cap, cur, hv, r⟩
  · exact .inl h2
  · exact .inr ⟨j, cap, cur, by rw [hv]; unfold at'; rw [hS], r⟩
theorem wd_merge_2 (w : World) (a b c : Array Obj) (L : List (Array Obj)) (n : Nat) : wd w (c :: b :: a :: L) n = wd w (c :: (a ++ b) :: L) n := world_ext (by simp [wd, hp]) rfl rfl rfl rfl
theorem sz_merge (B : Nat) (a b : Array Obj) (L : List (Array Obj)) : sz B (shape (b :: a :: L)) = sz B (shape ((a ++ b) :: L)) := by
  simp only [shape, sz, Array.size_append]; omega
/-- 'append(v, u...)', u made just now, a piece between. -/
theorem at_append2 {d : Array Obj} (hgd : o.guard = none) (s x : Operand) (ho : o.op = .call { callee := .builtin .append, args := #[s, x], argTypes := #[48, 48] })
    (hs : a.eval s = v) (hrow : BRow w L m v l) (hx : a.eval x = u) (hsrc : BRow w (d :: m :: L) m1 u l2) (hlen : l.length + l2.length ≤ 1099511627776)
    (h : ∀ (v' : Value) (m' : Ext), BRow w L m'.e v' (l ++ l2) → wpList Try.prog ops Q rest (a.put o.dst v') (wd w (m'.e :: L) m'.n)) :
    wpList Try.prog ops Q (o :: rest) a (wd w (m1 :: d :: m :: L) n) := by
  rw [wd_merge_2]
  exact at_append hgd s x ho hs (rowIn_more hrow d) hx (rowIn_sz (sz_merge _ _ _ _) hsrc) hlen h
/-- 'append(nil, u...)', u made just now. -/
theorem at_append_nil (hgd : o.guard = none) (s x : Operand) (ho : o.op = .call { callee := .builtin .append, args := #[s, x], argTypes := #[48, 48] })
    (hs : a.eval s = .slice none 0 0) (hx : a.eval x = u) (hsrc : BRow w L m1 u l2) (hlen : l2.length ≤ 1099511627776)
    (h : ∀ (v' : Value) (m' : Ext), BRow w L m'.e v' l2 → wpList Try.prog ops Q rest (a.put o.dst v') (wd w (m'.e :: L) m'.n)) :
    wpList Try.prog ops Q (o :: rest) a (wd w (m1 :: L) n) := by
  have e1 : wd w (m1 :: L) n = wd w (m1 :: #[] :: L) n := by rw [wd_merge, Array.empty_append]
  rw [e1]
  refine at_append (m := #[]) (l := []) hgd s x ho hs (rowIn_nil _ _ _ _ _) hx hsrc (by simpa using hlen) ?_
  intro v' m' hr
  exact h v' m' hr
end
/-- '[]byte{b}'. -/
theorem brow_lit (w : World) (L : List (Array Obj)) (b : Int) (c : UInt8) (hb : b = c.toNat) : BRow w L #[.cells #[.int .u8 b] 5] (.slice (some ⟨sz w.heap.size (shape L), 0, none⟩) 1 1) [c] := by
  subst hb
  exact rowIn_lit w.heap.size (shape L) _ 5 1 1 (by decide) rfl
/-- The pieces beneath a row, in one. -/
theorem brow_under {w : World} {L : List (Array Obj)} {d m : Array Obj} {v : Value} {l : List UInt8} (h : BRow w (d :: L) m v l) : BRow w L (d ++ m) v l := rowIn_under h
theorem bmade_of2 {w : World} {m d : Array Obj} {n : Nat} {v : Value} {l : List UInt8} (h : BRow w [d] m v l) : BMade w (wd w [m, d] n) v l := by rw [wd_merge]; exact made_of (brow_under h)
theorem bmade_of3 {w : World} {m d d2 : Array Obj} {n : Nat} {v : Value} {l : List UInt8} (h : BRow w [d, d2] m v l) : BMade w (wd w [m, d, d2] n) v l := by rw [wd_merge]; exact bmade_of2 (brow_under h)
theorem bmade_nil (w : World) (L : List (Array Obj)) (n : Nat) : BMade w (wd w L n) (.slice none 0 0) [] := by
  obtain ⟨x, k, hx⟩ := more_wd w L n
  exact ⟨⟨x, k⟩, hx, rowIn_nil _ _ _ _ _⟩
end Go.Proofs.Ytlanghikmccmbaa
/- batch: plain; rows of structs that can be read. -/
namespace Go.Proofs.Ytlanghikmccmbaa
open Go.ChangeShapes Go.WideShapes Go.ChangeAt Go.RowKit
set_option linter.unusedVariables false
set_option linter.unusedSimpArgs false

/-- The elements l (size cells each) can be read from the address a on. -/
structure RowAt {α : Type} (cells : α → List Value) (size : Nat) (w : World) (a : Option Addr) (l : List α) : Prop where
  out : l ≠ [] → ∃ b off, a = some ⟨b, off, none⟩ ∧ b < w.heap.size ∧ ∀ i, i < l.length * size → w.cell? ⟨b, off + i, none⟩ = (l.flatMap cells)[i]?
section
variable {α : Type} {cells : α → List Value} {size : Nat} {w w' : World} {a : Option Addr} {l : List α}
theorem RowAt.more (h : RowAt cells size w a l) (hm : More w w') : RowAt cells size w' a l := by
  refine ⟨fun hne => ?_⟩
  obtain ⟨b, off, ha, hb, hc⟩ := h.out hne
  have bel := hm.below
  exact ⟨b, off, ha, Nat.lt_of_lt_of_le hb bel.size, fun i hi => by rw [bel.cell hb]; exact hc i hi⟩
theorem RowAt.nil (a : Option Addr) : RowAt cells size w a [] := ⟨fun h => absurd rfl h⟩
theorem RowAt.at (h : RowAt cells size w a l) (hs : ∀ x, (cells x).length = size) (k : Nat) (x : α) (hx : l[k]? = some x) : ∃ b off, a = some ⟨b, off, none⟩ ∧ b < w.heap.size ∧ ∀ j, j < size → w.cell? ⟨b, off + (k * size + j), none⟩ = (cells x)[j]? := by
  have hk : k < l.length := (List.getElem?_eq_some_iff.1 hx).1
  obtain ⟨b, off, ha, hb, hc⟩ := h.out (by intro h; subst h; simp at hk)
  refine ⟨b, off, ha, hb, fun j hj => ?_⟩
  have h1 : (k + 1) * size ≤ l.length * size := Nat.mul_le_mul_right _ hk
  rw [Nat.succ_mul] at h1
  rw [hc (k * size + j) (by omega)]
  exact flat_at cells size hs l k x j hx hj
theorem RowAt.rd (h : RowAt cells size w a l) (hs : ∀ x, (cells x).length = size) (cap : Nat) : RdRow w size (.slice a l.length cap) l.length (l.flatMap cells) := by
  refine ⟨flat_len cells size hs l, ?_⟩
  by_cases hne : l = []
  · subst hne; exact .inl ⟨rfl, a, cap, rfl⟩
  · obtain ⟨b, off, ha, hb, hc⟩ := h.out hne
    exact .inr ⟨b, off, cap, by rw [ha], hb, hc⟩
theorem RowAt.of_rd {cap : Nat} (h : RdRow w size (.slice a l.length cap) l.length (l.flatMap cells)) : RowAt cells size w a l := by
  refine ⟨fun hne => ?_⟩
  obtain ⟨_, ⟨h0, _⟩ | ⟨b, off, c, hv, hb, hc⟩⟩ := h
  · exact absurd (List.eq_nil_of_length_eq_zero h0) hne
  · cases hv; exact ⟨b, off, rfl, hb, hc⟩
end
/-- What there is stands in a block from B on. -/
def From {α : Type} (B : Nat) (a : Option Addr) (l : List α) : Prop := l ≠ [] → ∃ b off, a = some ⟨b, off, none⟩ ∧ B ≤ b
theorem From.nil {α : Type} (B : Nat) (a : Option Addr) : From B a ([] : List α) := fun h => absurd rfl h
theorem From.le {α : Type} {B B' : Nat} {a : Option Addr} {l : List α} (h : From B a l) (hb : B' ≤ B) : From B' a l := fun hne => by
  obtain ⟨b, off, ha, h1⟩ := h hne; exact ⟨b, off, ha, Nat.le_trans hb h1⟩
abbrev RecsAt (w : World) (a : Option Addr) (l : List Rec) : Prop := RowAt recCells 6 w a l
/-- The six cells of the k-th record. -/
theorem recs_at {w : World} {a : Option Addr} {l : List Rec} (h : RecsAt w a l) (k : Nat) (x : Rec) (hx : l[k]? = some x) : ∃ b off, a = some ⟨b, off, none⟩ ∧ b < w.heap.size ∧
    w.cell? ⟨b, off + k * 6, none⟩ = some (.int .i64 x.delta) ∧ w.cell? ⟨b, off + k * 6 + 1, none⟩ = some (.int .i64 x.time) ∧ w.cell? ⟨b, off + k * 6 + 2, none⟩ = some (.bool x.keyed) ∧
    w.cell? ⟨b, off + k * 6 + 3, none⟩ = some (.string (str x.key)) ∧ w.cell? ⟨b, off + k * 6 + 4, none⟩ = some (.bool x.dead) ∧ w.cell? ⟨b, off + k * 6 + 5, none⟩ = some (.string (str x.value)) := by
  obtain ⟨b, off, ha, hb, g⟩ := h.at recCells_len k x hx
  exact ⟨b, off, ha, hb, g 0 (by omega), g 1 (by omega), g 2 (by omega), g 3 (by omega), g 4 (by omega), g 5 (by omega)⟩

structure Bat where
  base : Int
  count : Int
  producer : Int
  epoch : Int
  seq : Int
  recs : List Rec
def Bat.zero : Bat := ⟨0, 0, 0, 0, 0, []⟩
instance : Inhabited Bat := ⟨Bat.zero⟩
def batHead (b : Bat) : List Int := [b.base, b.count, b.producer, b.epoch, b.seq, b.recs.length]
def numsB (l : List Int) : List UInt8 := l.flatMap put
def recsB (l : List Rec) : List UInt8 := l.flatMap fun r => (recPut r).1
def batLay (b : Bat) : List UInt8 := numsB (batHead b) ++ recsB b.recs
def batNum (b : Bat) : Int :=
  if b.count < 1 ∨ 32 < b.count ∨ b.base < 0 ∨ 4611686018427387903 - b.count < b.base then 11
  else if b.producer < 0 ∨ 1099511627776 < b.producer ∨ b.epoch < 0 ∨ 32767 < b.epoch ∨ b.seq < 0 ∨ 2147483647 < b.seq then 11
  else if b.producer = 0 ∧ (b.epoch ≠ 0 ∨ b.seq ≠ 0) then 4
  else if b.count < b.recs.length then 5 else 0
def chk (last count : Int) : List Rec → Int
  | [] => 0
  | r :: rs => if recCheck r ≠ 0 then recCheck r else if r.delta ≤ last ∨ count ≤ r.delta then 16 else chk r.delta count rs
def batCheck (b : Bat) : Int :=
  if batNum b ≠ 0 then batNum b else if chk (-1) b.count b.recs ≠ 0 then chk (-1) b.count b.recs else if 8192 < (batLay b).length then 5 else 0
def batPut (b : Bat) : List UInt8 × Int := if batCheck b ≠ 0 then ([], batCheck b) else (batLay b, 0)
theorem batNum_ok {b : Bat} (h : batNum b = 0) : 1 ≤ b.count ∧ b.count ≤ 32 ∧ 0 ≤ b.base ∧ b.base ≤ 4611686018427387903 ∧ 0 ≤ b.producer ∧ b.producer ≤ 1099511627776 ∧ 0 ≤ b.epoch ∧ b.epoch ≤ 32767 ∧ 0 ≤ b.seq ∧ b.seq ≤ 2147483647 ∧ b.recs.length ≤ 32 := by
  unfold batNum at h
  split at h
  · simp at h
  · split at h
    · simp at h
    · split at h
      · simp at h
      · split at h
        · simp at h
        · omega
def Bat.wf (b : Bat) : Prop := I64 b.base ∧ I64 b.count ∧ I64 b.producer ∧ I64 b.epoch ∧ I64 b.seq
theorem Bat.wf_ok {b : Bat} (h : batNum b = 0) : b.wf := by
  obtain ⟨h1, h2, h3, h4, h5, h6, h7, h8, h9, h10, h11⟩ := batNum_ok h
  exact ⟨⟨by omega, by omega⟩, ⟨by omega, by omega⟩, ⟨by omega, by omega⟩, ⟨by omega, by omega⟩, ⟨by omega, by omega⟩⟩
theorem recsB_len (l : List Rec) : (recsB l).length ≤ 640 * l.length := by
  induction l with
  | nil => simp [recsB]
  | cons r l ih =>
    have h := recPut_len r
    have e : recsB (r :: l) = (recPut r).1 ++ recsB l := by simp [recsB]
    rw [e, List.length_append, List.length_cons]; omega
theorem recsB_snoc (l : List Rec) (r : Rec) : recsB (l ++ [r]) = recsB l ++ (recPut r).1 := by simp [recsB]
theorem numsB_len : ∀ (l : List Int), (∀ n ∈ l, I64 n) → (numsB l).length ≤ 10 * l.length
  | [], _ => by simp [numsB]
  | n :: l, h => by
    have h1 := numsB_len l (fun n hn => h n (List.mem_cons_of_mem _ hn))
    have h2 := h n (List.mem_cons_self ..)
    have h3 := put_len h2.1 h2.2
    have e : numsB (n :: l) = put n ++ numsB l := by simp [numsB]
    rw [e, List.length_append, List.length_cons]; omega
theorem head_wf {b : Bat} (h : b.wf) (hl : b.recs.length ≤ 1000000) : ∀ n ∈ batHead b, I64 n := by
  obtain ⟨h1, h2, h3, h4, h5⟩ := h
  intro n hn
  simp only [batHead, List.mem_cons, List.not_mem_nil, or_false] at hn
  rcases hn with rfl | rfl | rfl | rfl | rfl | rfl
  · exact h1
  · exact h2
  · exact h3
  · exact h4
  · exact h5
  · exact ⟨by omega, by omega⟩
theorem chk_cons (last count : Int) (r : Rec) (rs : List Rec) : chk last count (r :: rs) = if recCheck r ≠ 0 then recCheck r else if r.delta ≤ last ∨ count ≤ r.delta then 16 else chk r.delta count rs := rfl
theorem drop_at {α : Type} (l : List α) (k : Nat) (x : α) (h : l[k]? = some x) : l.drop k = x :: l.drop (k + 1) := by
  obtain ⟨hk, rfl⟩ := List.getElem?_eq_some_iff.1 h
  exact List.drop_eq_getElem_cons hk
end Go.Proofs.Ytlanghikmccmbaa
/- record: Check, Put. -/
namespace Go.Proofs.Ytlanghikmccmbaa
open Go.ChangeShapes Go.WideShapes Go.ChangeAt Go.RowKit
set_option linter.unusedVariables false
set_option linter.unusedSimpArgs false

theorem str_toList (l : List UInt8) : (str l).toList = l := by rw [Lib.toList_data, str_data]
abbrev recV (r : Rec) : Value := .agg #[.int .i64 r.delta, .int .i64 r.time, .bool r.keyed, .string (str r.key), .bool r.dead, .string (str r.value)]
set_option maxRecDepth 100000 in
set_option maxHeartbeats 1600000 in
theorem rcheck_x (delta time : Int) (keyed dead : Bool) (key value : List UInt8) (w : World) : Calls Try.prog 82 #[.agg #[.int .i64 delta, .int .i64 time, .bool keyed, .string (str key), .bool dead, .string (str value)]] w fun e w' =>
    e = .returned (.int .i64 (recCheck ⟨delta, time, keyed, key, dead, value⟩)) ∧ More w w' := by
  refine calls_wd ?_
  go_enter Try.func82, Try.ntmps82
  go_wp2
  all_goals (go_ret; refine ⟨ret_i ?_, more_wd _ _ _⟩; (try simp only [str_size, str_toList] at *); unfold recCheck; dsimp only; (repeat' split) <;> simp_all <;> omega)
theorem texts_any (s : List UInt8) (hs : s.length ≤ 1099511627776) (w : World) : Calls Try.prog 45 #[.string (str s)] w fun e w' => ∃ v, e = .returned v ∧ BMade w w' v (textL s) := by
  have h := text_any (str s) (by rw [str_size]; exact hs) w
  rwa [text_str] at h
theorem fin3 {w : World} {m d d2 : Array Obj} {n : Nat} {v : Value} {l l' : List UInt8} (h : BRow w [d, d2] m v l) (hl : l = l') : BMade w (wd w [m, d, d2] n) v l' := by subst hl; exact bmade_of3 h
theorem textL_len {s : List UInt8} {k : Nat} (h : s.length ≤ k) (hk : k ≤ 1099511627776) : (textL s).length ≤ k + 10 := by
  have := put_len (n := (s.length : Int)) (by omega) (by omega)
  unfold textL
  rw [List.length_append]; omega
set_option maxRecDepth 100000 in
set_option maxHeartbeats 1600000 in
theorem recput_x (delta time : Int) (keyed dead : Bool) (key value : List UInt8) (w : World) : Calls Try.prog 95 #[.agg #[.int .i64 delta, .int .i64 time, .bool keyed, .string (str key), .bool dead, .string (str value)]] w fun x w' =>
    BRet w w' x (recPut ⟨delta, time, keyed, key, dead, value⟩).1 (recPut ⟨delta, time, keyed, key, dead, value⟩).2 := by
  have hck := fun W => rcheck_x delta time keyed dead key value W
  by_cases h0 : recCheck ⟨delta, time, keyed, key, dead, value⟩ = 0
  · obtain ⟨⟨g1, g2, g3, g4⟩, ⟨g5, g6⟩, -, -⟩ := recCheck_ok h0
    simp only at g1 g2 g3 g4 g5 g6
    rw [h0] at hck
    have HP : Hid (recPut ⟨delta, time, keyed, key, dead, value⟩ = (recBytes ⟨delta, time, keyed, key, dead, value⟩, 0)) := Lib.hid (by unfold recPut; rw [if_pos h0])
    clear h0
    have p1 := put_len (n := delta) (by omega) (by omega)
    have p2 := put_len (n := time) (by omega) (by omega)
    have p3 := textL_len g5 (by omega)
    have p4 := textL_len g6 (by omega)
    have o1 : bits .or .u8 0 1 = 1 := by decide
    have o2 : bits .or .u8 0 2 = 2 := by decide
    have o3 : bits .or .u8 1 2 = 3 := by decide
    cases keyed <;> cases dead
    all_goals
      refine calls_wd ?_
      go_enter Try.func95, Try.ntmps95
      go_wp2_with (first
        | (go_at_call 82; ((with_reducible refine (hck _).mono ?_); rintro e w1 ⟨rfl, x1, n1, rfl⟩))
        | (go_at_call 43; ((with_reducible refine (put_any delta (by omega) (by omega) _).mono ?_); rintro e w1 ⟨v1, rfl, x1⟩; obtain ⟨m1, rfl, hr1⟩ := x1.wd; clear x1))
        | (at_builtin; refine at_append rfl _ _ rfl rfl (brow_lit w _ _ 0 rfl) rfl hr1 (by simp; omega) ?_; clear hr1; intro v2 m2 hr2)
        | (at_builtin; refine at_append rfl _ _ rfl rfl (brow_lit w _ _ 1 rfl) rfl hr1 (by simp; omega) ?_; clear hr1; intro v2 m2 hr2)
        | (at_builtin; refine at_append rfl _ _ rfl rfl (brow_lit w _ _ 2 rfl) rfl hr1 (by simp; omega) ?_; clear hr1; intro v2 m2 hr2)
        | (at_builtin; refine at_append rfl _ _ rfl rfl (brow_lit w _ _ 3 rfl) rfl hr1 (by simp; omega) ?_; clear hr1; intro v2 m2 hr2)
        | (go_at_call 43; ((with_reducible refine (put_any time (by omega) (by omega) _).mono ?_); rintro e w1 ⟨v3, rfl, x1⟩; obtain ⟨m3, rfl, hr3⟩ := x1.wd; clear x1))
        | (at_builtin; refine at_append rfl _ _ rfl rfl hr2 rfl hr3 (by simp; omega) ?_; clear hr2 hr3; intro v4 m4 hr4)
        | (go_at_call 45; ((with_reducible refine (texts_any key (by omega) _).mono ?_); rintro e w1 ⟨v5, rfl, x1⟩; obtain ⟨m5, rfl, hr5⟩ := x1.wd; clear x1))
        | (at_builtin; refine at_append rfl _ _ rfl rfl hr4 rfl hr5 (by simp; omega) ?_; clear hr4 hr5; intro v6 m6 hr6)
        | (go_at_call 45; ((with_reducible refine (texts_any value (by omega) _).mono ?_); rintro e w1 ⟨v7, rfl, x1⟩; obtain ⟨m7, rfl, hr7⟩ := x1.wd; clear x1))
        | (at_builtin; refine at_append rfl _ _ rfl rfl hr6 rfl hr7 (by simp; omega) ?_; clear hr6 hr7; intro v8 m8 hr8)
        | (at_builtin; refine at_append rfl _ _ rfl rfl hr4 rfl hr7 (by simp; omega) ?_; clear hr4 hr7; intro v8 m8 hr8))
      first
        | exact bodyPost_ret (v := .tuple #[v8, .int .i64 0]) (by simp [results, Try.results95, go_sem]) rfl ⟨v8, by rw [HP.out], fin3 hr8 (by rw [HP.out]; simp [recBytes, recFlag])⟩
        | exact bodyPost_ret (v := .tuple #[v6, .int .i64 0]) (by simp [results, Try.results95, go_sem]) rfl ⟨v6, by rw [HP.out], fin3 hr6 (by rw [HP.out]; simp [recBytes, recFlag])⟩
        | exact bodyPost_ret (v := .tuple #[v4, .int .i64 0]) (by simp [results, Try.results95, go_sem]) rfl ⟨v4, by rw [HP.out], fin3 hr4 (by rw [HP.out]; simp [recBytes, recFlag])⟩
  · have HP : Hid (recPut ⟨delta, time, keyed, key, dead, value⟩ = ([], recCheck ⟨delta, time, keyed, key, dead, value⟩)) := Lib.hid (by unfold recPut; rw [if_neg h0])
    generalize recCheck ⟨delta, time, keyed, key, dead, value⟩ = E at *
    have hne : (E == 0) = false := by rw [beq_eq_false_iff_ne]; exact h0
    refine calls_wd ?_
    go_enter Try.func95, Try.ntmps95
    go_wp2_with (first | (go_at_call 82; ((with_reducible refine (hck _).mono ?_); rintro e w1 ⟨rfl, x1, n1, rfl⟩)))
    refine bodyPost_ret (v := .tuple #[.slice none 0 0, .int .i64 E]) (by simp [results, Try.results95, go_sem]) rfl ⟨_, by rw [HP.out], by rw [HP.out]; exact bmade_nil _ _ _⟩
end Go.Proofs.Ytlanghikmccmbaa
/- record, the reference: Put. -/
namespace Go.Proofs.Ytlanghikmccmbaa
open Go.ChangeShapes Go.WideShapes Go.ChangeAt Go.RowKit
set_option linter.unusedVariables false
set_option linter.unusedSimpArgs false

end Go.Proofs.Ytlanghikmccmbaa
