/- script: rows of steps: read, and made by append. -/
import Derived.Test.YtejokhgabcldhaaMV
import Derived.Maps.AppendAt
namespace Go.Proofs.Ytejokhgabcldhaa
open Go.ChangeShapes Go.WideShapes Go.ChangeAt Go.RowKit
set_option linter.unusedVariables false
set_option linter.unusedSimpArgs false

/-- A step with what it points to. -/
structure Stm where
  s : Stp
  a : Option Addr
  cap : Nat
  f : Option Addr
  fc : Nat
instance : Inhabited Stm := ⟨⟨stpBlank 0, none, 0, none, 0⟩⟩
def stmCells (x : Stm) : List Value := stpCells x.s x.a x.cap x.f x.fc
theorem stmCells_len (x : Stm) : (stmCells x).length = 22 := by unfold stmCells stpCells reqCells; rfl
theorem stm_toList (s : Stp) (a : Option Addr) (cap : Nat) (f : Option Addr) (fc : Nat) : (stp s a cap f fc).toList = stmCells ⟨s, a, cap, f, fc⟩ := by unfold stp stmCells; simp
/-- A whole block laid cell by cell. -/
theorem set_fold (l : List Value) : ∀ (k : Nat) (C : Array Value) (i : Nat), k + l.length ≤ C.size → ((l.zipIdx k).foldl (fun cs x => cs.setIfInBounds x.2 x.1) C)[i]? = if k ≤ i ∧ i < k + l.length then l[i - k]? else C[i]? := by
  induction l with
  | nil => intro k C i _; rw [if_neg (by simp)]; rfl
  | cons x l ih =>
    intro k C i hk
    rw [List.length_cons] at hk ⊢
    rw [List.zipIdx_cons, List.foldl_cons, ih (k + 1) _ i (by rw [Array.size_setIfInBounds]; omega)]
    by_cases h1 : i = k
    · subst h1
      rw [if_neg (by omega), if_pos (by omega), Nat.sub_self, Array.getElem?_setIfInBounds, if_pos rfl, if_pos (by omega)]; rfl
    · by_cases h2 : k ≤ i ∧ i < k + (l.length + 1)
      · rw [if_pos (by omega), if_pos h2, show i - k = (i - (k + 1)) + 1 by omega]; rfl
      · rw [if_neg (by omega), if_neg h2, Array.getElem?_setIfInBounds, if_neg (by omega)]
theorem set_fold_at (off : Nat) (l : List Value) : ∀ (k : Nat) (C : Array Value) (i : Nat), off + k + l.length ≤ C.size → ((l.zipIdx k).foldl (fun cs x => cs.setIfInBounds (off + x.2) x.1) C)[i]? = if off + k ≤ i ∧ i < off + k + l.length then l[i - (off + k)]? else C[i]? := by
  induction l with
  | nil => intro k C i _; rw [if_neg (by simp)]; rfl
  | cons x l ih =>
    intro k C i hk
    rw [List.length_cons] at hk ⊢
    rw [List.zipIdx_cons, List.foldl_cons, ih (k + 1) _ i (by rw [Array.size_setIfInBounds]; omega)]
    by_cases h1 : i = off + k
    · subst h1
      rw [if_neg (by omega), if_pos (by omega), Nat.sub_self, Array.getElem?_setIfInBounds, if_pos rfl, if_pos (by omega)]; rfl
    · by_cases h2 : off + k ≤ i ∧ i < off + k + (l.length + 1)
      · rw [if_pos (by omega), if_pos h2, show i - (off + k) = (i - (off + (k + 1))) + 1 by omega]; rfl
      · rw [if_neg (by omega), if_neg h2, Array.getElem?_setIfInBounds, if_neg (by omega)]
theorem fill_all (A C : Array Value) (h : C.size = A.size) (n : Nat) (hn : n = A.size) : Array.foldl (fun cs (x : Value × Nat) => cs.setIfInBounds x.snd x.fst) C A.zipIdx 0 n = A := by
  have e : n = A.zipIdx.size := by simp [hn]
  rw [e, ← Array.foldl_toList, Array.toList_zipIdx]
  apply Array.ext_getElem?
  intro i
  rw [set_fold _ 0 C i (by simp [h])]
  split
  · simp
  · rename_i h2
    rw [Array.getElem?_eq_none (by simp at h2; omega), Array.getElem?_eq_none (by simp at h2; omega)]
@[go_sem] theorem fill_stp (s : Stp) (a : Option Addr) (cap : Nat) (f : Option Addr) (fc : Nat) (C : Array Value) (h : C.size = 22) : Array.foldl (fun cs (x : Value × Nat) => cs.setIfInBounds x.snd x.fst) C (stp s a cap f fc).zipIdx 0 22 = stp s a cap f fc :=
  fill_all _ _ (by rw [stp_size]; exact h) _ (stp_size _ _ _ _ _).symm
@[go_sem] theorem fill_two (s s' : Stp) (a a' : Option Addr) (cap cap' : Nat) (f f' : Option Addr) (fc fc' : Nat) (C : Array Value) (h : C.size = 44) :
    Array.foldl (fun cs (x : Value × Nat) => cs.setIfInBounds (22 + x.snd) x.fst) (Array.foldl (fun cs (x : Value × Nat) => cs.setIfInBounds x.snd x.fst) C (stp s a cap f fc).zipIdx 0 22) (stp s' a' cap' f' fc').zipIdx 0 22 = stp s a cap f fc ++ stp s' a' cap' f' fc' := by
  have z1 : (stp s a cap f fc).zipIdx.size = 22 := by simp [stp_size]
  have z2 : (stp s' a' cap' f' fc').zipIdx.size = 22 := by simp [stp_size]
  have l1 : (stp s a cap f fc).toList.length = 22 := stp_len ..
  have l2 : (stp s' a' cap' f' fc').toList.length = 22 := stp_len ..
  have e1 : ∀ (D : Array Value), Array.foldl (fun cs (x : Value × Nat) => cs.setIfInBounds x.snd x.fst) D (stp s a cap f fc).zipIdx 0 22 = ((stp s a cap f fc).toList.zipIdx 0).foldl (fun cs x => cs.setIfInBounds x.2 x.1) D := fun D => by
    rw [← z1, ← Array.foldl_toList, Array.toList_zipIdx]
  have e2 : ∀ (D : Array Value), Array.foldl (fun cs (x : Value × Nat) => cs.setIfInBounds (22 + x.snd) x.fst) D (stp s' a' cap' f' fc').zipIdx 0 22 = ((stp s' a' cap' f' fc').toList.zipIdx 0).foldl (fun cs x => cs.setIfInBounds (22 + x.2) x.1) D := fun D => by
    rw [← z2, ← Array.foldl_toList, Array.toList_zipIdx, z2]
  have hsz : ∀ (l : List Value) (k : Nat) (D : Array Value), ((l.zipIdx k).foldl (fun cs x => cs.setIfInBounds x.2 x.1) D).size = D.size := by
    intro l
    induction l with
    | nil => intro k D; rfl
    | cons x l ih => intro k D; rw [List.zipIdx_cons, List.foldl_cons, ih, Array.size_setIfInBounds]
  rw [e1, e2]
  apply Array.ext_getElem?
  intro i
  rw [set_fold_at 22 _ 0 _ i (by rw [hsz, l2, h]; decide), set_fold _ 0 C i (by rw [l1, h]; decide), Array.getElem?_append, stp_size, l1, l2, Array.getElem?_toList, Array.getElem?_toList]
  by_cases h1 : i < 22
  · rw [if_neg (by omega), if_pos (by omega), if_pos h1]; rfl
  · by_cases h2 : i < 44
    · rw [if_pos (by omega), if_neg h1]
    · rw [if_neg (by omega), if_neg (by omega), if_neg h1, Array.getElem?_eq_none (by omega), Array.getElem?_eq_none (by rw [stp_size]; omega)]
/-- The steps l can be read. -/
structure StmsAt (w : World) (ad : Option Addr) (l : List Stm) : Prop where
  row : RowAt stmCells 22 w ad l
  each : ∀ x ∈ l, StpAt w x.s x.a x.f x.fc
theorem StmsAt.more {w w' : World} {ad : Option Addr} {l : List Stm} (h : StmsAt w ad l) (hm : More w w') : StmsAt w' ad l := ⟨h.row.more hm, fun x hx => (h.each x hx).more hm⟩
theorem StmsAt.nil (w : World) (ad : Option Addr) : StmsAt w ad [] := ⟨RowAt.nil _, fun x hx => by simp at hx⟩
/-- The cells of the k-th step, however much stands behind. -/
theorem load_row {P : Program} {w : World} {ad : Option Addr} {l : List Stm} (h : RowAt stmCells 22 w ad l) (k : Nat) (x : Stm) (hx : l[k]? = some x) :
    ∃ b off, ad = some ⟨b, off, none⟩ ∧ b < w.heap.size ∧ ∀ L n, (loadBlk ⟨b, off + k * 22, none⟩ 22).run P (wd w L n) = .ok (stp x.s x.a x.cap x.f x.fc) (wd w L n) := by
  obtain ⟨b, off, ha, hb, hc⟩ := h.at stmCells_len k x hx
  refine ⟨b, off, ha, hb, fun L n => ?_⟩
  have h1 := run_loadCells_list (P := P) (w := wd w L n) ⟨b, off + k * 22, none⟩ (stmCells x) (fun j v hv => by
    have hj : j < 22 := by
      have := (List.getElem?_eq_some_iff.1 hv).1
      rw [stmCells_len] at this; exact this
    rw [addr_add, wd_cell_old w L n b _ hb, Nat.add_assoc, hc j hj, hv])
  rw [stmCells_len] at h1
  unfold loadBlk
  simpa [loadCells, stp, stmCells] using h1
theorem load_more {P : Program} {w w' : World} {b off : Nat} {l : List Stm} (h : RowAt stmCells 22 w (some ⟨b, off, none⟩) l) (k : Nat) (x : Stm) (hx : l[k]? = some x) (hm : More w w') :
    (loadBlk ⟨b, off + k * 22, none⟩ 22).run P w' = .ok (stp x.s x.a x.cap x.f x.fc) w' ∧ w'.cell? ⟨b, off + k * 22 + 19, none⟩ = some (.int .i64 x.s.n) := by
  obtain ⟨b', off', ha, hb, hc⟩ := (h.more hm).at stmCells_len k x hx
  cases ha
  constructor
  · have h1 := run_loadCells_list (P := P) (w := w') ⟨b, off + k * 22, none⟩ (stmCells x) (fun j v hv => by
      have hj : j < 22 := by
        have := (List.getElem?_eq_some_iff.1 hv).1
        rw [stmCells_len] at this; exact this
      rw [addr_add, Nat.add_assoc, hc j hj, hv])
    rw [stmCells_len] at h1
    unfold loadBlk
    simpa [loadCells, stp, stmCells] using h1
  · have h2 := stp_19 x.s x.a x.cap x.f x.fc
    rw [← Array.getElem?_toList, stm_toList] at h2
    rw [Nat.add_assoc, hc 19 (by decide)]; exact h2
/-- Its request, and its fate. -/
theorem load_row_q {P : Program} {w : World} {ad : Option Addr} {l : List Stm} (h : RowAt stmCells 22 w ad l) (k : Nat) (x : Stm) (hx : l[k]? = some x) :
    ∃ b off, ad = some ⟨b, off, none⟩ ∧ b < w.heap.size ∧ (∀ L n, (loadBlk ⟨b, off + k * 22 + 1, none⟩ 18).run P (wd w L n) = .ok (rq x.s.q x.a x.cap) (wd w L n)) ∧ w.cell? ⟨b, off + k * 22 + 21, none⟩ = some (.slice x.f x.s.fate.length x.fc) ∧
      w.cell? ⟨b, off + k * 22 + 19, none⟩ = some (.int .i64 x.s.n) := by
  obtain ⟨b, off, ha, hb, hc⟩ := h.at stmCells_len k x hx
  refine ⟨b, off, ha, hb, fun L n => ?_, ?_, ?_⟩
  · have h1 := run_loadCells_list (P := P) (w := wd w L n) ⟨b, off + k * 22 + 1, none⟩ (rq x.s.q x.a x.cap).toList (fun j v hv => by
      have hj : j < 18 := by
        have := (List.getElem?_eq_some_iff.1 hv).1
        rw [rq_len] at this; exact this
      rw [addr_add, wd_cell_old w L n b _ hb, show off + k * 22 + 1 + j = off + (k * 22 + (1 + j)) by omega, hc (1 + j) (by omega)]
      have h2 := rq_sub x.s x.a x.cap x.f x.fc j hj
      rw [← Array.getElem?_toList, stm_toList, ← Array.getElem?_toList] at h2
      rw [h2]; exact hv)
    rw [rq_len] at h1
    unfold loadBlk
    simpa [loadCells] using h1
  · have h2 := stp_21 x.s x.a x.cap x.f x.fc
    rw [← Array.getElem?_toList, stm_toList] at h2
    rw [Nat.add_assoc, hc 21 (by decide)]; exact h2
  · have h2 := stp_19 x.s x.a x.cap x.f x.fc
    rw [← Array.getElem?_toList, stm_toList] at h2
    rw [Nat.add_assoc, hc 19 (by decide)]; exact h2
/-! ### what is pointed to is not in the row's own block -/
def Apart {α : Type} (row : Option Nat) (a : Option Addr) (l : List α) : Prop := l ≠ [] → ∀ b off, a = some ⟨b, off, none⟩ → some b ≠ row
theorem apart_from {α : Type} {row : Option Nat} {B : Nat} {a : Option Addr} {l : List α} (h : From B a l) (hr : ∀ k, row = some k → k < B) : Apart row a l := by
  intro hne b off ha he
  obtain ⟨b', off', ha', hb⟩ := h hne
  rw [ha] at ha'
  cases ha'
  have := hr _ he.symm
  omega
/-- What an append leaves. -/
structure Grew (W W' : World) (v v' : Value) : Prop where
  block : ∀ k, k < W.heap.size → some k ≠ v.ownBlock → W'.heap[k]? = W.heap[k]?
  size : W.heap.size ≤ W'.heap.size
  own : v'.ownBlock = v.ownBlock ∨ v'.ownBlock = some W.heap.size
theorem Grew.rows {α : Type} {cells : α → List Value} {n : Nat} {W W' : World} {v v' : Value} {a : Option Addr} {l : List α} (hg : Grew W W' v v') (h : RowAt cells n W a l) (hp : Apart v.ownBlock a l) : RowAt cells n W' a l ∧ Apart v'.ownBlock a l := by
  refine ⟨⟨fun hne => ?_⟩, fun hne b off ha he => ?_⟩
  · obtain ⟨b, off, ha, hb, hc⟩ := h.out hne
    refine ⟨b, off, ha, Nat.lt_of_lt_of_le hb hg.size, fun i hi => ?_⟩
    rw [← hc i hi]
    simp only [World.cell?, hg.block b hb (hp hne b off ha)]
  · rcases hg.own with h1 | h1
    · exact hp hne b off ha (by rw [he, h1])
    · obtain ⟨b', off', ha', hb, _⟩ := h.out hne
      rw [ha] at ha'; cases ha'
      rw [h1] at he; cases he
      omega
theorem Grew.bytes {W W' : World} {v v' : Value} {a : Option Addr} {c : Nat} {l : List UInt8} (hg : Grew W W' v v') (h : RB W (.slice a l.length c) l) (hp : Apart v.ownBlock a l) : RB W' (.slice a l.length c) l ∧ Apart v'.ownBlock a l := by
  obtain ⟨a', c', hv, h1, h2, h3⟩ := h
  cases hv
  refine ⟨⟨a, c, rfl, h1, h2, fun hne => ?_⟩, fun hne b off ha he => ?_⟩
  · obtain ⟨b, off, ha, hb, hc⟩ := h3 hne
    refine ⟨b, off, ha, Nat.lt_of_lt_of_le hb hg.size, fun i hi => ?_⟩
    rw [← hc i hi]
    simp only [World.cell?, hg.block b hb (hp hne b off ha)]
  · rcases hg.own with h1 | h1
    · exact hp hne b off ha (by rw [he, h1])
    · obtain ⟨b', off', ha', hb, _⟩ := h3 hne
      rw [ha] at ha'; cases ha'
      rw [h1] at he; cases he
      omega
/-- Steps of a row that is being made. -/
structure StmsBy (W : World) (row : Option Nat) (l : List Stm) : Prop where
  each : ∀ x ∈ l, StpAt W x.s x.a x.f x.fc ∧ Apart row x.a x.s.q.batch.recs ∧ Apart row x.f x.s.fate
theorem StmsBy.nil (W : World) (row : Option Nat) : StmsBy W row [] := ⟨fun x hx => by simp at hx⟩
theorem StmsBy.more {W W' : World} {row : Option Nat} {l : List Stm} (h : StmsBy W row l) (hm : More W W') : StmsBy W' row l := ⟨fun x hx => ⟨(h.each x hx).1.more hm, (h.each x hx).2⟩⟩
theorem StmsBy.snoc {W : World} {row : Option Nat} {l : List Stm} {x : Stm} (h : StmsBy W row l) (h1 : StpAt W x.s x.a x.f x.fc) (h2 : Apart row x.a x.s.q.batch.recs) (h3 : Apart row x.f x.s.fate) : StmsBy W row (l ++ [x]) := by
  refine ⟨fun y hy => ?_⟩
  rcases List.mem_append.1 hy with hy | hy
  · exact h.each y hy
  · simp at hy; subst hy; exact ⟨h1, h2, h3⟩
theorem StmsBy.grew {W W' : World} {v v' : Value} {l : List Stm} (h : StmsBy W v.ownBlock l) (hg : Grew W W' v v') : StmsBy W' v'.ownBlock l := by
  refine ⟨fun x hx => ?_⟩
  obtain ⟨h1, h2, h3⟩ := h.each x hx
  obtain ⟨g1, g2⟩ := hg.rows h1.r h2
  obtain ⟨g3, g4⟩ := hg.bytes h1.f h3
  exact ⟨⟨g1, g3⟩, g2, g4⟩
/-- A block in which neither records nor bytes stand, written. -/
theorem rb_other {w w' : World} {v : Value} {l : List UInt8} {b0 : Nat} {C : Array Value} {t : TypeId} {fr : Nat × Nat} (h : RB w v l) (hs : w'.heap.size = w.heap.size) (ho : ∀ b, b ≠ b0 → w'.heap[b]? = w.heap[b]?)
    (hC : w.heap[b0]? = some (.cells C t fr)) (hno : ∀ (i : Nat) (n : Int), C[i]? ≠ some (.int .u8 n)) : RB w' v l := by
  obtain ⟨a, cap, hv, h1, h2, h3⟩ := h
  refine ⟨a, cap, hv, h1, h2, fun hne => ?_⟩
  obtain ⟨b, off, ha, hb, hc⟩ := h3 hne
  refine ⟨b, off, ha, by rw [hs]; exact hb, fun i hi => ?_⟩
  have hbp : b ≠ b0 := by
    intro he; subst he
    have h2 := hc i hi
    rw [bc_get, List.getElem?_eq_getElem hi] at h2
    simp only [World.cell?, hC] at h2
    exact hno _ _ h2
  rw [← hc i hi]
  simp only [World.cell?, ho b hbp]
theorem no_u8_r (v : Value) (e : Int) (hv : ∀ n, v ≠ .int .u8 n) (i : Nat) (n : Int) : (#[v, .int .i64 e] : Array Value)[i]? ≠ some (.int .u8 n) := by
  match i with
  | 0 => simp; exact hv n
  | 1 => simp
  | k + 2 => simp
theorem StmsBy.other {w w' : World} {row : Option Nat} {l : List Stm} {b0 : Nat} {v : Value} {e : Int} {t : TypeId} {fr : Nat × Nat} (h : StmsBy w row l) (hs : w'.heap.size = w.heap.size) (ho : ∀ b, b ≠ b0 → w'.heap[b]? = w.heap[b]?)
    (hC : w.heap[b0]? = some (.cells #[v, .int .i64 e] t fr)) (hv : ∀ n, v ≠ .int .u8 n) (hb : ∀ x, v ≠ .bool x) : StmsBy w' row l :=
  ⟨fun x hx => ⟨⟨recs_other (h.each x hx).1.r hs ho hC (no_rec_r v e hb), rb_other (h.each x hx).1.f hs ho hC (no_u8_r v e hv)⟩, (h.each x hx).2⟩⟩
theorem StmsBy.rset {w : World} {row : Option Nat} {l : List Stm} {p : Nat} {v : Value} {e : Int} (h : StmsBy w row l) (hr : Rdr w p v e) (hv : ∀ n, v ≠ .int .u8 n) (hb : ∀ x, v ≠ .bool x) (v' : Value) (e' : Int) : StmsBy (rset w p v' e') row l :=
  h.other (rset_size _ _ _ _) (fun b hb => rset_other _ _ _ _ _ hb) hr.at_ hv hb
/-! ### append of one element, told what is kept -/
theorem wp_append_rowG {P : Program} {ops : Array Oper} {rest : List Oper} {o : Oper} {a : Act} {Q : Exit → Act → World → Prop} (hgd : o.guard = none) (s x : Operand) (t : TypeId)
    (ho : o.op = .call { callee := .builtin .append, args := #[s, x], argTypes := #[t, t] })
    (e : TypeId) (i : TypeInfo) (z : Value) (size bytes : Nat) (ht : P.underlying t = some (.slice e)) (hi : P.info? e = some i) (hz : i.zero = some z)
    (hsize : i.size = size) (hby : i.bytes = bytes) (hzs : z.cells.size = size) (hsz : 0 < size)
    {w : World} {L : List (Array Obj)} {n : Nat} {m : Array Obj} (v : Value) (k : Nat) (xs : List Value) (hs : a.eval s = v) (hrow : rowIn w.heap.size (shape L) m e size v k xs)
    (C : Array Value) (t' : TypeId) (q c : Nat) (hx : a.eval x = .slice (some ⟨sz w.heap.size (m.size :: shape L), 0, none⟩) q c) (hl : C.size = q * size) (h1 : ∀ u ∈ C.toList, u.oneCell' = true)
    (h63 : k + q ≤ maxLen) (hbytes : (k + q) * bytes ≤ 140737488355328)
    (h : ∀ (v' : Value) (m' : Ext), rowIn w.heap.size (shape L) m'.e e size v' (k + q) (xs ++ C.toList) → Grew (wd w (#[.cells C t'] :: m :: L) n) (wd w (m'.e :: L) m'.n) v v' → wpList P ops Q rest (a.put o.dst v') (wd w (m'.e :: L) m'.n)) :
    wpList P ops Q (o :: rest) a (wd w (#[.cells C t'] :: m :: L) n) := by
  rw [wd_merge] at h ⊢
  have hown := owns_of_row (k := n) (rowIn_more hrow #[.cells C t'])
  refine wpList_append_own_at _ hgd s x t ho (sz w.heap.size (shape L)) e i z size bytes ht hi hz hsize hby hzs hsz v k xs hs hown _ q c C.toList hx (by simpa using hl) (fun j u hu => ?_) h1 h63 hbytes (by rw [wd_size, shape_cons]; simp only [sz]; omega) ?_
  · rw [← wd_merge]
    have e1 : ((⟨sz w.heap.size (m.size :: shape L), 0, none⟩ : Addr).add j) = ⟨sz w.heap.size (m.size :: shape L), j, none⟩ := by
      unfold Addr.add; split <;> simp_all
    rw [e1, wd_cell w (m :: L) n w.heap.size j (m.size :: shape L) C t' (0, 0) rfl rfl]
    simpa using hu
  · intro v' w' hown' hg _ hat
    have hr : ∀ k, v.ownBlock = some k → sz w.heap.size (shape L) ≤ k := fun k hk => by
      rcases hrow.2 with ⟨rfl, _⟩ | ⟨j, cap, cur, rfl, _⟩
      · simp [Value.ownBlock] at hk
      · simp only [Value.ownBlock, Option.some.injEq] at hk; unfold at' at hk; omega
    obtain ⟨m', rfl⟩ := grown_piece (m := 0) hg hr
    exact h v' m' (row_of_owns hown') ⟨hg.block, hg.size, hat⟩
/-- .. its row beneath the pieces D. -/
theorem wp_append_rowGD (D : List (Array Obj)) {P : Program} {ops : Array Oper} {rest : List Oper} {o : Oper} {a : Act} {Q : Exit → Act → World → Prop} (hgd : o.guard = none) (s x : Operand) (t : TypeId)
    (ho : o.op = .call { callee := .builtin .append, args := #[s, x], argTypes := #[t, t] })
    (e : TypeId) (i : TypeInfo) (z : Value) (size bytes : Nat) (ht : P.underlying t = some (.slice e)) (hi : P.info? e = some i) (hz : i.zero = some z)
    (hsize : i.size = size) (hby : i.bytes = bytes) (hzs : z.cells.size = size) (hsz : 0 < size)
    {w : World} {L : List (Array Obj)} {n : Nat} {m : Array Obj} (v : Value) (k : Nat) (xs : List Value) (hs : a.eval s = v) (hrow : rowIn w.heap.size (shape L) m e size v k xs)
    (C : Array Value) (t' : TypeId) (q c : Nat) (hx : a.eval x = .slice (some ⟨sz w.heap.size (shape (D ++ m :: L)), 0, none⟩) q c) (hl : C.size = q * size) (h1 : ∀ u ∈ C.toList, u.oneCell' = true)
    (h63 : k + q ≤ maxLen) (hbytes : (k + q) * bytes ≤ 140737488355328)
    (h : ∀ (v' : Value) (m' : Ext), rowIn w.heap.size (shape L) m'.e e size v' (k + q) (xs ++ C.toList) → Grew (wd w (#[.cells C t'] :: (D ++ m :: L)) n) (wd w (m'.e :: L) m'.n) v v' → wpList P ops Q rest (a.put o.dst v') (wd w (m'.e :: L) m'.n)) :
    wpList P ops Q (o :: rest) a (wd w (#[.cells C t'] :: (D ++ m :: L)) n) := by
  rw [wd_mall1] at h ⊢
  exact wp_append_rowG hgd s x t ho e i z size bytes ht hi hz hsize hby hzs hsz v k xs hs (rowIn_mall hrow D) C t' q c (by rw [hx, sz_mall]; rfl) hl h1 h63 hbytes h
/-- A row's block is one of those there are. -/
theorem row_lt {w : World} {L : List (Array Obj)} {n : Nat} {m : Array Obj} {E : TypeId} {size : Nat} {v : Value} {k : Nat} {xs : List Value} (h : rowIn w.heap.size (shape L) m E size v k xs) : ∀ j, v.ownBlock = some j → j < (wd w (m :: L) n).heap.size := by
  intro j hj
  rcases h.2 with ⟨rfl, _⟩ | ⟨i, cap, cur, rfl, hi, _⟩
  · simp [Value.ownBlock] at hj
  · simp only [Value.ownBlock, Option.some.injEq] at hj
    rw [wd_size, shape_cons]; simp only [sz]
    unfold at' at hj; omega
theorem row_ltD (D : List (Array Obj)) {w : World} {L : List (Array Obj)} {n : Nat} {m : Array Obj} {E : TypeId} {size : Nat} {v : Value} {k : Nat} {xs : List Value} (h : rowIn w.heap.size (shape L) m E size v k xs) : ∀ j, v.ownBlock = some j → j < (wd w (D ++ m :: L) n).heap.size := by
  rw [wd_mall]; exact row_lt (rowIn_mall h D)
end Go.Proofs.Ytejokhgabcldhaa
/- script: Put, of both. -/
namespace Go.Proofs.Ytejokhgabcldhaa
open Go.ChangeShapes Go.WideShapes Go.ChangeAt Go.RowKit
set_option linter.unusedVariables false
set_option linter.unusedSimpArgs false

theorem stpPut_len {s : Stp} (hf : StpFit s) : (stpPut s).1.length ≤ 100001 := by
  by_cases h : (stpPut s).2 = 0
  · obtain ⟨hk, ho, hl, hz, h5⟩ := stpPut_ok (s := s) (l := (stpPut s).1) (Prod.ext rfl h)
    rw [h5, List.length_cons]
    have hb : (stpBody s).length ≤ 100000 := by
      have hp := put_len hf.n.1 hf.n.2
      unfold stpBody
      split
      · rename_i h0; exact reqPut_len (hz h0) hf.wf
      · split
        · omega
        · split
          · have : (flagB s.done).length = 1 := by cases s.done <;> rfl
            rw [List.length_append]; omega
          · omega
    omega
  · unfold stpPut at h ⊢
    split
    · simp
    · split
      · simp
      · split
        · simp
        · split
          · simp
          · rename_i h1 h2 h3 h4
            rw [if_neg h1, if_neg h2, if_neg h3, if_neg h4] at h
            exact absurd rfl h
theorem stpsLay_len : ∀ (l : List Stp), (∀ s ∈ l, StpFit s) → (stpsLay l).length ≤ 100020 * l.length
  | [], _ => by simp [stpsLay]
  | s :: l, h => by
    have h1 := stpsLay_len l (fun x hx => h x (List.mem_cons_of_mem _ hx))
    have h2 := textL_len (stpPut_len (h s (List.mem_cons_self ..))) (by decide)
    rw [stpsLay_cons, List.length_append, List.length_cons]; omega
theorem stpsPut_long {l : List Stp} (h : 1000 < l.length) : stpsPut l = ([], 5) := by unfold stpsPut; rw [if_pos h]
theorem stpsPut_err {l : List Stp} (h : ¬ 1000 < l.length) (k : Nat) (s : Stp) (hs : l[k]? = some s) (hk : ∀ x ∈ l.take k, (stpPut x).2 = 0) (he : (stpPut s).2 ≠ 0) : stpsPut l = ([], (stpPut s).2) := by
  have h1 := stpsErr_at l k s hs hk he
  unfold stpsPut; rw [if_neg h, h1, if_pos he]
theorem stpsPut_big {l : List Stp} (h : ¬ 1000 < l.length) (hk : ∀ x ∈ l, (stpPut x).2 = 0) (hb : 65536 < (stpsLay l).length) : stpsPut l = ([], 5) := by
  unfold stpsPut; rw [if_neg h, stpsErr_no hk, if_neg (by simp), if_pos hb]
theorem stpsPut_fine {l : List Stp} (h : ¬ 1000 < l.length) (hk : ∀ x ∈ l, (stpPut x).2 = 0) (hb : ¬ 65536 < (stpsLay l).length) : stpsPut l = (stpsLay l, 0) := by
  unfold stpsPut; rw [if_neg h, stpsErr_no hk, if_neg (by simp), if_neg hb]
theorem take_all_snoc {l : List Stp} {k : Nat} {s : Stp} (hs : l[k]? = some s) (hk : ∀ x ∈ l.take k, (stpPut x).2 = 0) (h : (stpPut s).2 = 0) : ∀ x ∈ l.take (k + 1), (stpPut x).2 = 0 := by
  rw [take_get l k s hs]
  intro x hx
  rcases List.mem_append.1 hx with hx | hx
  · exact hk x hx
  · simp at hx; subst hx; exact h
set_option maxRecDepth 100000 in
set_option maxHeartbeats 3200000 in
theorem putstms_any (ad : Option Addr) (cap : Nat) (l : List Stm) (w : World) (h : StmsAt w ad l) (hf : ∀ x ∈ l, StpFit x.s) (hm : l.length ≤ maxLen) :
    Calls Try.prog 16 #[.slice ad l.length cap] w fun x w' => BRet w w' x (stpsPut (l.map Stm.s)).1 (stpsPut (l.map Stm.s)).2 := by
  have HA := Lib.hid h
  have HF := Lib.hid hf
  have HF2 : Hid (∀ s ∈ l.map Stm.s, StpFit s) := Lib.hid (by intro s hs; obtain ⟨x, hx, rfl⟩ := List.mem_map.1 hs; exact hf x hx)
  have HG : Hid (∀ (k : Nat) (x : Stm), l[k]? = some x → (l.map Stm.s)[k]? = some x.s) := Lib.hid (by intro k x hx; simp [hx])
  have hlen : (l.map Stm.s).length = l.length := by simp
  unfold maxLen at hm
  generalize l.map Stm.s = S at *
  by_cases hbig : 1000 < l.length
  · have HP := Lib.hid (stpsPut_long (l := S) (by omega))
    clear h hf hlen
    refine calls_wd ?_
    go_enter Try.func16, Try.ntmps16
    go_wp2
    exact bodyPost_ret (v := .tuple #[.slice none 0 0, .int .i64 5]) (by simp [results, Try.results16, go_sem]) rfl ⟨_, by rw [HP.out], by rw [HP.out]; exact bmade_nil _ _ _⟩
  · have hl2 : (l.length : Int) ≤ 1000 := by omega
    have HB : Hid (¬ 1000 < S.length) := Lib.hid (by omega)
    have HLL := Lib.hid (fun k => stpsLay_len (S.take k) (fun s hs => HF2.out s (List.mem_of_mem_take hs)))
    have HLEN := Lib.hid hlen
    clear h hf hlen
    refine calls_wd ?_
    go_enter Try.func16, Try.ntmps16
    go_wp2
    go_loopw [4, 14] (fun v i wr => ∃ (k : Nat) (m : Ext), k ≤ l.length ∧ i = .int .i64 k ∧ Hid (∀ y ∈ S.take k, (stpPut y).2 = 0) ∧ Hid (BRow w [] m.e v (stpsLay (S.take k))) ∧ wr = wd w [m.e] m.n) (fun _ i _ => l.length - (intOf i).toNat)
    case atStart => exact ⟨0, ⟨#[], w.drawn⟩, Nat.zero_le _, rfl, Lib.hid (by simp), Lib.hid (by simpa [stpsLay] using brow_nil w [] #[]), by rw [wd_empty]⟩
    case round =>
      obtain ⟨k, m, hk, rfl, HOK, HROW, rfl⟩ := hrel
      obtain ⟨va, vc, rfl⟩ := rowIn_slice HROW.out
      have hll := HLL.out k
      have htk : (S.take k).length ≤ 1000 := by rw [List.length_take]; omega
      by_cases hlt : k < l.length
      · obtain ⟨x, hx⟩ : ∃ x, l[k]? = some x := ⟨_, List.getElem?_eq_getElem hlt⟩
        obtain ⟨b, off, rfl, hb, hld⟩ := load_row (P := Try.prog) HA.out.row k x hx
        have HXS := Lib.hid (HG.out k x hx)
        have hmem := List.mem_of_getElem? hx
        have HAT := Lib.hid (HA.out.each x hmem)
        have hfit := HF.out x hmem
        have hpl := stpPut_len hfit
        obtain ⟨P, hP⟩ : ∃ P, stpPut x.s = P := ⟨_, rfl⟩
        have HPUT := Lib.hid (fun W h => hP ▸ pst_any x.s x.a x.cap x.f x.fc W hfit h)
        have HPE := Lib.hid hP
        rw [hP] at hpl
        clear hP hx hmem hfit
        obtain ⟨s, a, c, f, fc⟩ := x
        obtain ⟨pl, pe⟩ := P
        dsimp only at hpl HAT HPUT HXS HPE hld
        by_cases hpe : pe = 0
        · subst hpe
          have HL2 : Hid (stpsLay (S.take (k + 1)) = stpsLay (S.take k) ++ textL pl) := Lib.hid (by rw [take_get S k s HXS.out, stpsLay_snoc, HPE.out])
          have htl := textL_len (s := pl) hpl (by decide)
          go_wp2_with (first
            | (go_at_call 12; ((with_reducible refine (HPUT.out _ (HAT.out.more (more_wd _ _ _))).mono ?_); rintro e w2 ⟨u9, rfl, hm9⟩; obtain ⟨p9, rfl, hs9⟩ := hm9.wd; clear hm9; have hcv := (RB.of_row (L := [sbk s a c f fc 36, m.e]) (k := p9.n) hs9 _ rfl).run_str (P := Try.prog) 28 9 5 Try.underlying28 Try.underlying5 Try.underlying9; clear hs9))
            | (go_at_call 59; ((with_reducible refine (texts_any pl (by omega) _).mono ?_); rintro e w1 ⟨v8, rfl, x1⟩; obtain ⟨m8, rfl, hr8⟩ := x1.wd; clear x1))
            | (at_builtin; refine at_appendD [p9.e, sbk s a c f fc 36] rfl _ _ rfl rfl HROW.out rfl hr8 (by omega) ?_; clear hr8; intro v' m' hr'))
          go_roundw
          case rel => exact ⟨k + 1, m', by omega, by go_num, Lib.hid (take_all_snoc HXS.out HOK.out (by rw [HPE.out])), Lib.hid (by rw [HL2.out]; exact hr'), rfl⟩
          case measure => simp [intOf]; omega
        · have HX : Hid (stpsPut S = ([], pe)) := Lib.hid (by rw [stpsPut_err HB.out k s HXS.out HOK.out (by rw [HPE.out]; exact hpe), HPE.out])
          have hne : (pe == 0) = false := by rw [beq_eq_false_iff_ne]; exact hpe
          go_wp2_with (first
            | (go_at_call 12; ((with_reducible refine (HPUT.out _ (HAT.out.more (more_wd _ _ _))).mono ?_); rintro e w2 ⟨u9, rfl, hm9⟩; obtain ⟨p9, rfl, hs9⟩ := hm9.wd; clear hm9 hs9)))
          exact bodyPost_ret (v := .tuple #[.slice none 0 0, .int .i64 pe]) (by simp [results, Try.results16, go_sem]) rfl ⟨_, by rw [HX.out], by rw [HX.out]; exact bmade_nil _ _ _⟩
      · have HT : Hid (S.take k = S) := Lib.hid (List.take_of_length_le (by have := HLEN.out; omega))
        rw [HT.out] at HROW HOK hll ⊢
        obtain ⟨N, hN⟩ : ∃ N, (stpsLay S).length = N := ⟨_, rfl⟩
        have HN := Lib.hid hN
        rw [hN] at hll ⊢
        by_cases hb : 65536 < N
        · have HX := Lib.hid (stpsPut_big HB.out HOK.out (by rw [HN.out]; exact hb))
          clear hN
          go_wp2
          exact bodyPost_ret (v := .tuple #[.slice none 0 0, .int .i64 5]) (by simp [results, Try.results16, go_sem]) rfl ⟨_, by rw [HX.out], by rw [HX.out]; exact bmade_nil _ _ _⟩
        · have HX := Lib.hid (stpsPut_fine HB.out HOK.out (by rw [HN.out]; exact hb))
          have hb2 : (N : Int) ≤ 65536 := by omega
          clear hN
          go_wp2
          exact bodyPost_ret (v := .tuple #[.slice va N vc, .int .i64 0]) (by simp [results, Try.results16, go_sem]) rfl ⟨_, by rw [HX.out], by rw [HX.out]; rw [← HN.out]; exact bmade_of HROW.out⟩
end Go.Proofs.Ytejokhgabcldhaa
