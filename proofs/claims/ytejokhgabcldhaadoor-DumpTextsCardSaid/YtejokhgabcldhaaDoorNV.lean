/- dump: the reader's block. -/
import Derived.Test.YtejokhgabcldhaaDoorNN
import Derived.Test.YtejokhgabcldhaaDoorNM
import Derived.Test.YtejokhgabcldhaaDoorMC
namespace Go.Proofs.YtejokhgabcldhaaDoor
open Go.ChangeShapes Go.WideShapes Go.ChangeAt Go.RowKit
set_option linter.unusedVariables false
set_option linter.unusedSimpArgs false

/-- A reader of lines at the block p. -/
structure LRd (w : World) (p : Nat) (a : Option Addr) (cap : Nat) (ls : List (List UInt8)) (k : Nat) : Prop where
  at_ : w.heap[p]? = some (.cells #[.slice a ls.length cap, .int .i64 k] 79)
  row : TRow strCell 9 w a ls
theorem LRd.lt {w : World} {p : Nat} {a : Option Addr} {cap : Nat} {ls : List (List UInt8)} {k : Nat} (h : LRd w p a cap ls k) : p < w.heap.size := (Array.getElem?_eq_some_iff.1 h.at_).1
theorem LRd.c0 {w : World} {p : Nat} {a : Option Addr} {cap : Nat} {ls : List (List UInt8)} {k : Nat} (h : LRd w p a cap ls k) : w.cell? ⟨p, 0, none⟩ = some (.slice a ls.length cap) := by simp [World.cell?, h.at_]
theorem LRd.c1 {w : World} {p : Nat} {a : Option Addr} {cap : Nat} {ls : List (List UInt8)} {k : Nat} (h : LRd w p a cap ls k) : w.cell? ⟨p, 1, none⟩ = some (.int .i64 k) := by simp [World.cell?, h.at_]
theorem LRd.f {w : World} {p : Nat} {a : Option Addr} {cap : Nat} {ls : List (List UInt8)} {k : Nat} (h : LRd w p a cap ls k) (i : Nat) : w.frozen? ⟨p, i, none⟩ = false := by simp [World.frozen?, h.at_]
theorem LRd.more {w w' : World} {p : Nat} {a : Option Addr} {cap : Nat} {ls : List (List UInt8)} {k : Nat} (h : LRd w p a cap ls k) (hm : More w w') : LRd w' p a cap ls k := by
  refine ⟨?_, h.row.more hm⟩
  obtain ⟨x, n, rfl⟩ := hm
  rw [plus_block _ _ _ _ h.lt]; exact h.at_
/-- The reader's place, written. -/
def lset (w : World) (p : Nat) (k : Int) : World := w.setCell ⟨p, 1, none⟩ (.int .i64 k)
theorem lset_block {w : World} {p : Nat} {a : Option Addr} {cap : Nat} {ls : List (List UInt8)} {k : Nat} (h : LRd w p a cap ls k) (k' : Int) : (lset w p k').heap[p]? = some (.cells #[.slice a ls.length cap, .int .i64 k'] 79) := by
  simp [lset, World.setCell, Array.getElem?_modify, h.at_]
theorem lset_other (w : World) (p b : Nat) (k : Int) (h : b ≠ p) : (lset w p k).heap[b]? = w.heap[b]? := by
  simp [lset, World.setCell, Array.getElem?_modify, Ne.symm h]
theorem lset_keeps {w : World} {p : Nat} {a : Option Addr} {cap : Nat} {ls : List (List UInt8)} {k : Nat} (h : LRd w p a cap ls k) (k' : Int) : Keeps [79] w (lset w p k') := by
  intro b C t fr hb ht
  by_cases hbp : b = p
  · subst hbp
    rw [h.at_] at hb
    simp only [Option.some.injEq, Obj.cells.injEq] at hb
    exact absurd (by rw [← hb.2.1]; simp) ht
  · rw [lset_other _ _ _ _ hbp]; exact hb
theorem LRd.lset {w : World} {p : Nat} {a : Option Addr} {cap : Nat} {ls : List (List UInt8)} {k : Nat} (h : LRd w p a cap ls k) (k' : Nat) : LRd (lset w p k') p a cap ls k' := ⟨lset_block h k', h.row.keeps (lset_keeps h k') (by decide)⟩
@[go_sem] theorem lset_size (w : World) (p : Nat) (k : Int) : (lset w p k).heap.size = w.heap.size := by simp [Go.Proofs.YtejokhgabcldhaaDoor.lset, World.setCell]
@[go_sem] theorem lset_drawn (w : World) (p : Nat) (k : Int) : (lset w p k).drawn = w.drawn := rfl
@[go_sem] theorem lset_wd_old (w : World) (L : List (Array Obj)) (n p : Nat) (k : Int) (hp : p < w.heap.size) : lset (wd w L n) p k = wd (lset w p k) L n := by
  unfold lset
  rw [wd_set_old w L n p 1 _ hp]
@[go_sem] theorem lset_wd (w : World) (L : List (Array Obj)) (n B : Nat) (S : List Nat) (u1 u2 : Value) (t : TypeId) (k : Int) (hB : B = w.heap.size) (hS : shape L = S) :
    lset (wd w (#[.cells #[u1, u2] t] :: L) n) (sz B S) k = wd w (#[.cells #[u1, .int .i64 k] t] :: L) n := by
  unfold lset
  rw [wd_set w L n B 1 S _ t (0, 0) _ hB hS]
  rfl
@[go_sem] theorem lset_wd_past (w : World) (L : List (Array Obj)) (n B : Nat) (S : List Nat) (s : Array Obj) (k : Int) (hB : B = w.heap.size) (hS : inn S (shape L)) :
    lset (wd w (s :: L) n) (sz B S) k = onTop s (lset (wd w L n) (sz B S) k) := by
  have hlt : sz B S < (wd w L n).heap.size := by subst hB; rw [wd_size]; exact inn_lt _ hS
  have e1 : wd w (s :: L) n = plus (wd w L n) s n := rfl
  rw [e1]
  unfold lset onTop
  rw [plus_setCell _ _ _ _ _ _ hlt]
  rfl
@[go_sem] theorem lset_plus (w : World) (x : Array Obj) (n p : Nat) (k : Int) (hp : p < w.heap.size) : lset (plus w x n) p k = plus (lset w p k) x n := by
  unfold lset
  rw [plus_setCell _ _ _ _ _ _ hp]
@[go_sem] theorem lset_lset (w : World) (p : Nat) (k k' : Int) : lset (lset w p k) p k' = lset w p k' := by
  refine world_ext ?_ rfl rfl rfl rfl
  apply Array.ext_getElem?
  intro j
  simp only [lset, World.setCell, Array.getElem?_modify]
  by_cases hj : p = j
  · subst hj
    simp only [if_true]
    cases ho : w.heap[p]? with
    | none => rfl
    | some o =>
      cases o <;> simp
  · simp [hj]
theorem lset_self {w : World} {p : Nat} {a : Option Addr} {cap : Nat} {ls : List (List UInt8)} {k : Nat} (h : LRd w p a cap ls k) : lset w p k = w := setCell_self h.c1
end Go.Proofs.YtejokhgabcldhaaDoor
