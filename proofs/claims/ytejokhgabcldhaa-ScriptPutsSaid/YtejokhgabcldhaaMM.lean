/- script: a step kept as one value. -/
import Derived.Test.YtejokhgabcldhaaMH
import Derived.Laws.CopyRow
import Derived.Test.YtejokhgabcldhaaMK2
import Derived.Test.YtejokhgabcldhaaMI
import Derived.Test.YtejokhgabcldhaaML
import Derived.Test.YtejokhgabcldhaaMA
import Derived.Test.YtejokhgabcldhaaMG
import Derived.Test.YtejokhgabcldhaaMK
namespace Go.Proofs.Ytejokhgabcldhaa
open Go.ChangeShapes Go.WideShapes Go.ChangeAt Go.RowKit
set_option linter.unusedVariables false
set_option linter.unusedSimpArgs false

structure Stp where
  kind : Nat
  q : Req
  n : Int
  done : Bool
  fate : List UInt8
theorem stp_eq (x y : Stp) : x = y ↔ x.kind = y.kind ∧ x.q = y.q ∧ x.n = y.n ∧ x.done = y.done ∧ x.fate = y.fate := by
  cases x; cases y; simp
instance (x y : Stp) : Decidable (x = y) := decidable_of_iff _ (stp_eq x y).symm
instance : DecidableEq Stp := fun x y => inferInstance
def stpBlank (k : Nat) : Stp := ⟨k, reqBlank 0, 0, false, []⟩
instance : Inhabited Stp := ⟨stpBlank 0⟩
def stpCells (s : Stp) (a : Option Addr) (cap : Nat) (f : Option Addr) (fc : Nat) : List Value := .int .u8 (s.kind : Nat) :: (reqCells s.q a cap ++ [.int .i64 s.n, .bool s.done, .slice f s.fate.length fc])
/-- A step's cells, kept as one. -/
def stp (s : Stp) (a : Option Addr) (cap : Nat) (f : Option Addr) (fc : Nat) : Array Value := (stpCells s a cap f fc).toArray
section
variable (s : Stp) (a : Option Addr) (cap : Nat) (f : Option Addr) (fc : Nat)
@[go_sem] theorem stp_size : (stp s a cap f fc).size = 22 := by unfold stp stpCells reqCells; rfl
@[go_sem] theorem stp_len : (stp s a cap f fc).toList.length = 22 := by unfold stp stpCells reqCells; rfl
@[go_sem] theorem stp_0 : (stp s a cap f fc)[0]? = some (.int .u8 (s.kind : Nat)) := by unfold stp stpCells reqCells; rfl
@[go_sem] theorem stp_at0 (h : 0 < (stp s a cap f fc).size) : (stp s a cap f fc)[0] = .int .u8 (s.kind : Nat) := by have := stp_0 s a cap f fc; rw [Array.getElem?_eq_getElem h] at this; exact Option.some.inj this
@[go_sem] theorem stp_19 : (stp s a cap f fc)[19]? = some (.int .i64 s.n) := by unfold stp stpCells reqCells; rfl
@[go_sem] theorem stp_at19 (h : 19 < (stp s a cap f fc).size) : (stp s a cap f fc)[19] = .int .i64 s.n := by have := stp_19 s a cap f fc; rw [Array.getElem?_eq_getElem h] at this; exact Option.some.inj this
@[go_sem] theorem stp_20 : (stp s a cap f fc)[20]? = some (.bool s.done) := by unfold stp stpCells reqCells; rfl
@[go_sem] theorem stp_at20 (h : 20 < (stp s a cap f fc).size) : (stp s a cap f fc)[20] = .bool s.done := by have := stp_20 s a cap f fc; rw [Array.getElem?_eq_getElem h] at this; exact Option.some.inj this
@[go_sem] theorem stp_21 : (stp s a cap f fc)[21]? = some (.slice f s.fate.length fc) := by unfold stp stpCells reqCells; rfl
@[go_sem] theorem stp_at21 (h : 21 < (stp s a cap f fc).size) : (stp s a cap f fc)[21] = .slice f s.fate.length fc := by have := stp_21 s a cap f fc; rw [Array.getElem?_eq_getElem h] at this; exact Option.some.inj this
@[go_sem] theorem stp_set0 (x : Nat) : (stp s a cap f fc).setIfInBounds 0 (.int .u8 (x : Nat)) = stp { s with kind := x } a cap f fc := by unfold stp stpCells reqCells; rfl
@[go_sem] theorem stp_set19 (x : Int) : (stp s a cap f fc).setIfInBounds 19 (.int .i64 x) = stp { s with n := x } a cap f fc := by unfold stp stpCells reqCells; rfl
@[go_sem] theorem stp_set20 (x : Bool) : (stp s a cap f fc).setIfInBounds 20 (.bool x) = stp { s with done := x } a cap f fc := by unfold stp stpCells reqCells; rfl
@[go_sem] theorem stp_set21 (l : List UInt8) (f' : Option Addr) (fc' : Nat) : (stp s a cap f fc).setIfInBounds 21 (.slice f' l.length fc') = stp { s with fate := l } a cap f' fc' := by unfold stp stpCells reqCells; rfl
@[go_sem] theorem stp_blank (k k' : Nat) : ({ stpBlank k with kind := k' } : Stp) = stpBlank k' := rfl
@[go_sem] theorem stpb_kind (k : Nat) : (stpBlank k).kind = k := rfl
@[go_sem] theorem stp_zero : (#[.int .u8 0, .int .u8 0, .string ⟨#[]⟩, .int .i64 0, .int .i64 0, .bool false, .bool false, .int .i64 0, .int .i64 0, .int .i64 0, .string ⟨#[]⟩, .string ⟨#[]⟩, .int .i64 0, .int .i64 0, .int .i64 0, .int .i64 0, .int .i64 0, .int .i64 0, .slice none 0 0, .int .i64 0, .bool false, .slice none 0 0] : Array Value) = stp (stpBlank 0) none 0 none 0 := by unfold stp stpCells reqCells; rfl
@[go_sem] theorem stp_one : ones (stp s a cap f fc).toList := by intro v hv; simp [stp, stpCells, reqCells] at hv; rcases hv with h | h | h | h | h | h | h | h | h | h | h | h | h | h | h | h | h | h | h | h | h | h <;> subst h <;> rfl
theorem rq_sub (i : Nat) (h : i < 18) : (stp s a cap f fc)[1 + i]? = (rq s.q a cap)[i]? := by
  have e : (stp s a cap f fc)[1 + i]? = (reqCells s.q a cap ++ [.int .i64 s.n, .bool s.done, .slice f s.fate.length fc])[i]? := by
    rw [show 1 + i = i + 1 by omega]; unfold stp stpCells; simp
  rw [e, List.getElem?_append_left (by simpa [reqCells] using h)]
  unfold rq; simp
end
/-! ### a step's request, out of its block and into it -/
theorem load_sub {P : Program} (W : World) (b : Nat) (s : Stp) (a : Option Addr) (cap : Nat) (f : Option Addr) (fc : Nat) (t : TypeId) (fr : Nat × Nat) (h : W.heap[b]? = some (.cells (stp s a cap f fc) t fr)) :
    (loadBlk ⟨b, 1, none⟩ 18).run P W = .ok (rq s.q a cap) W := by
  have h1 := run_loadCells_list (P := P) (w := W) ⟨b, 1, none⟩ (rq s.q a cap).toList (fun j v hv => by
    have hj : j < 18 := by
      have := (List.getElem?_eq_some_iff.1 hv).1
      rw [rq_len] at this; exact this
    rw [show (⟨b, 1, none⟩ : Addr).add j = ⟨b, 1 + j, none⟩ by unfold Addr.add; split <;> simp_all]
    simp only [World.cell?, h, rq_sub s a cap f fc j hj]
    simpa using hv)
  rw [rq_len] at h1
  unfold loadBlk
  simpa [loadCells] using h1
theorem store_sub {P : Program} (W : World) (b : Nat) (s : Stp) (q : Req) (a a' : Option Addr) (cap cap' : Nat) (f : Option Addr) (fc : Nat) (t : TypeId) (h : W.heap[b]? = some (.cells (stp s a cap f fc) t)) :
    (storeCells ⟨b, 1, none⟩ (rq q a' cap').toList 0).run P W = .ok () (bset W b (.cells (stp { s with q := q } a' cap' f fc) t)) := by
  rw [run_storeCells_at P b 1 t _ 0 _ W h (by rw [rq_len, stp_size]; decide) (rq_one q a' cap'), setRow_bset h]
  congr 3
@[go_sem] theorem wd_lsub0 {P : Program} (w : World) (L : List (Array Obj)) (n B : Nat) (S : List Nat) (s : Stp) (a : Option Addr) (cap : Nat) (f : Option Addr) (fc : Nat) (t : TypeId) (hB : B = w.heap.size) (hS : shape L = S) :
    (loadBlk ⟨sz B S, 1, none⟩ 18).run P (wd w (#[.cells (stp s a cap f fc) t] :: L) n) = .ok (rq s.q a cap) (wd w (#[.cells (stp s a cap f fc) t] :: L) n) :=
  load_sub _ _ s a cap f fc t (0, 0) (wd_at w L n B S _ hB hS)
@[go_sem ↓] theorem wd_ssub0 {P : Program} (w : World) (L : List (Array Obj)) (n B : Nat) (S : List Nat) (s : Stp) (q : Req) (a a' : Option Addr) (cap cap' : Nat) (f : Option Addr) (fc : Nat) (t : TypeId) (hB : B = w.heap.size) (hS : shape L = S) :
    (storeCells ⟨sz B S, 1, none⟩ (rq q a' cap').toList 0).run P (wd w (#[.cells (stp s a cap f fc) t] :: L) n) = .ok () (wd w (#[.cells (stp { s with q := q } a' cap' f fc) t] :: L) n) := by
  rw [store_sub _ _ s q a a' cap cap' f fc t (wd_at w L n B S _ hB hS)]
  congr 1
  subst hS
  rw [bset_wd _ _ _ _ _ _ _ hB rfl]
@[go_sem] theorem wd_lsub1 {P : Program} (w : World) (L : List (Array Obj)) (n B : Nat) (S : List Nat) (p0 : Array Obj) (s : Stp) (a : Option Addr) (cap : Nat) (f : Option Addr) (fc : Nat) (t : TypeId) (hB : B = w.heap.size) (hS : shape L = S) :
    (loadBlk ⟨sz B S, 1, none⟩ 18).run P (wd w (p0 :: #[.cells (stp s a cap f fc) t] :: L) n) = .ok (rq s.q a cap) (wd w (p0 :: #[.cells (stp s a cap f fc) t] :: L) n) :=
  load_sub _ _ s a cap f fc t (0, 0) (deep_push (wd_at w L n B S _ hB hS))
@[go_sem ↓] theorem wd_ssub1 {P : Program} (w : World) (L : List (Array Obj)) (n B : Nat) (S : List Nat) (p0 : Array Obj) (s : Stp) (q : Req) (a a' : Option Addr) (cap cap' : Nat) (f : Option Addr) (fc : Nat) (t : TypeId) (hB : B = w.heap.size) (hS : shape L = S) :
    (storeCells ⟨sz B S, 1, none⟩ (rq q a' cap').toList 0).run P (wd w (p0 :: #[.cells (stp s a cap f fc) t] :: L) n) = .ok () (wd w (p0 :: #[.cells (stp { s with q := q } a' cap' f fc) t] :: L) n) := by
  rw [store_sub _ _ s q a a' cap cap' f fc t (deep_push (wd_at w L n B S _ hB hS))]
  congr 1
  subst hS
  rw [bset_wd_past _ _ _ _ _ _ _ hB (by simp [shape, inn]), bset_wd _ _ _ _ _ _ _ hB rfl]
  rfl
@[go_sem] theorem wd_lsub2 {P : Program} (w : World) (L : List (Array Obj)) (n B : Nat) (S : List Nat) (p0 p1 : Array Obj) (s : Stp) (a : Option Addr) (cap : Nat) (f : Option Addr) (fc : Nat) (t : TypeId) (hB : B = w.heap.size) (hS : shape L = S) :
    (loadBlk ⟨sz B S, 1, none⟩ 18).run P (wd w (p0 :: p1 :: #[.cells (stp s a cap f fc) t] :: L) n) = .ok (rq s.q a cap) (wd w (p0 :: p1 :: #[.cells (stp s a cap f fc) t] :: L) n) :=
  load_sub _ _ s a cap f fc t (0, 0) (deep_push (deep_push (wd_at w L n B S _ hB hS)))
@[go_sem ↓] theorem wd_ssub2 {P : Program} (w : World) (L : List (Array Obj)) (n B : Nat) (S : List Nat) (p0 p1 : Array Obj) (s : Stp) (q : Req) (a a' : Option Addr) (cap cap' : Nat) (f : Option Addr) (fc : Nat) (t : TypeId) (hB : B = w.heap.size) (hS : shape L = S) :
    (storeCells ⟨sz B S, 1, none⟩ (rq q a' cap').toList 0).run P (wd w (p0 :: p1 :: #[.cells (stp s a cap f fc) t] :: L) n) = .ok () (wd w (p0 :: p1 :: #[.cells (stp { s with q := q } a' cap' f fc) t] :: L) n) := by
  rw [store_sub _ _ s q a a' cap cap' f fc t (deep_push (deep_push (wd_at w L n B S _ hB hS)))]
  congr 1
  subst hS
  rw [bset_wd_past _ _ _ _ _ _ _ hB (by simp [shape, inn]), bset_wd_past _ _ _ _ _ _ _ hB (by simp [shape, inn]), bset_wd _ _ _ _ _ _ _ hB rfl]
  rfl
@[go_sem] theorem wd_lsub3 {P : Program} (w : World) (L : List (Array Obj)) (n B : Nat) (S : List Nat) (p0 p1 p2 : Array Obj) (s : Stp) (a : Option Addr) (cap : Nat) (f : Option Addr) (fc : Nat) (t : TypeId) (hB : B = w.heap.size) (hS : shape L = S) :
    (loadBlk ⟨sz B S, 1, none⟩ 18).run P (wd w (p0 :: p1 :: p2 :: #[.cells (stp s a cap f fc) t] :: L) n) = .ok (rq s.q a cap) (wd w (p0 :: p1 :: p2 :: #[.cells (stp s a cap f fc) t] :: L) n) :=
  load_sub _ _ s a cap f fc t (0, 0) (deep_push (deep_push (deep_push (wd_at w L n B S _ hB hS))))
@[go_sem ↓] theorem wd_ssub3 {P : Program} (w : World) (L : List (Array Obj)) (n B : Nat) (S : List Nat) (p0 p1 p2 : Array Obj) (s : Stp) (q : Req) (a a' : Option Addr) (cap cap' : Nat) (f : Option Addr) (fc : Nat) (t : TypeId) (hB : B = w.heap.size) (hS : shape L = S) :
    (storeCells ⟨sz B S, 1, none⟩ (rq q a' cap').toList 0).run P (wd w (p0 :: p1 :: p2 :: #[.cells (stp s a cap f fc) t] :: L) n) = .ok () (wd w (p0 :: p1 :: p2 :: #[.cells (stp { s with q := q } a' cap' f fc) t] :: L) n) := by
  rw [store_sub _ _ s q a a' cap cap' f fc t (deep_push (deep_push (deep_push (wd_at w L n B S _ hB hS))))]
  congr 1
  subst hS
  rw [bset_wd_past _ _ _ _ _ _ _ hB (by simp [shape, inn]), bset_wd_past _ _ _ _ _ _ _ hB (by simp [shape, inn]), bset_wd_past _ _ _ _ _ _ _ hB (by simp [shape, inn]), bset_wd _ _ _ _ _ _ _ hB rfl]
  rfl
@[go_sem] theorem wd_lsub4 {P : Program} (w : World) (L : List (Array Obj)) (n B : Nat) (S : List Nat) (p0 p1 p2 p3 : Array Obj) (s : Stp) (a : Option Addr) (cap : Nat) (f : Option Addr) (fc : Nat) (t : TypeId) (hB : B = w.heap.size) (hS : shape L = S) :
    (loadBlk ⟨sz B S, 1, none⟩ 18).run P (wd w (p0 :: p1 :: p2 :: p3 :: #[.cells (stp s a cap f fc) t] :: L) n) = .ok (rq s.q a cap) (wd w (p0 :: p1 :: p2 :: p3 :: #[.cells (stp s a cap f fc) t] :: L) n) :=
  load_sub _ _ s a cap f fc t (0, 0) (deep_push (deep_push (deep_push (deep_push (wd_at w L n B S _ hB hS)))))
@[go_sem ↓] theorem wd_ssub4 {P : Program} (w : World) (L : List (Array Obj)) (n B : Nat) (S : List Nat) (p0 p1 p2 p3 : Array Obj) (s : Stp) (q : Req) (a a' : Option Addr) (cap cap' : Nat) (f : Option Addr) (fc : Nat) (t : TypeId) (hB : B = w.heap.size) (hS : shape L = S) :
    (storeCells ⟨sz B S, 1, none⟩ (rq q a' cap').toList 0).run P (wd w (p0 :: p1 :: p2 :: p3 :: #[.cells (stp s a cap f fc) t] :: L) n) = .ok () (wd w (p0 :: p1 :: p2 :: p3 :: #[.cells (stp { s with q := q } a' cap' f fc) t] :: L) n) := by
  rw [store_sub _ _ s q a a' cap cap' f fc t (deep_push (deep_push (deep_push (deep_push (wd_at w L n B S _ hB hS)))))]
  congr 1
  subst hS
  rw [bset_wd_past _ _ _ _ _ _ _ hB (by simp [shape, inn]), bset_wd_past _ _ _ _ _ _ _ hB (by simp [shape, inn]), bset_wd_past _ _ _ _ _ _ _ hB (by simp [shape, inn]), bset_wd_past _ _ _ _ _ _ _ hB (by simp [shape, inn]), bset_wd _ _ _ _ _ _ _ hB rfl]
  rfl
@[go_sem] theorem wd_lsub5 {P : Program} (w : World) (L : List (Array Obj)) (n B : Nat) (S : List Nat) (p0 p1 p2 p3 p4 : Array Obj) (s : Stp) (a : Option Addr) (cap : Nat) (f : Option Addr) (fc : Nat) (t : TypeId) (hB : B = w.heap.size) (hS : shape L = S) :
    (loadBlk ⟨sz B S, 1, none⟩ 18).run P (wd w (p0 :: p1 :: p2 :: p3 :: p4 :: #[.cells (stp s a cap f fc) t] :: L) n) = .ok (rq s.q a cap) (wd w (p0 :: p1 :: p2 :: p3 :: p4 :: #[.cells (stp s a cap f fc) t] :: L) n) :=
  load_sub _ _ s a cap f fc t (0, 0) (deep_push (deep_push (deep_push (deep_push (deep_push (wd_at w L n B S _ hB hS))))))
@[go_sem ↓] theorem wd_ssub5 {P : Program} (w : World) (L : List (Array Obj)) (n B : Nat) (S : List Nat) (p0 p1 p2 p3 p4 : Array Obj) (s : Stp) (q : Req) (a a' : Option Addr) (cap cap' : Nat) (f : Option Addr) (fc : Nat) (t : TypeId) (hB : B = w.heap.size) (hS : shape L = S) :
    (storeCells ⟨sz B S, 1, none⟩ (rq q a' cap').toList 0).run P (wd w (p0 :: p1 :: p2 :: p3 :: p4 :: #[.cells (stp s a cap f fc) t] :: L) n) = .ok () (wd w (p0 :: p1 :: p2 :: p3 :: p4 :: #[.cells (stp { s with q := q } a' cap' f fc) t] :: L) n) := by
  rw [store_sub _ _ s q a a' cap cap' f fc t (deep_push (deep_push (deep_push (deep_push (deep_push (wd_at w L n B S _ hB hS))))))]
  congr 1
  subst hS
  rw [bset_wd_past _ _ _ _ _ _ _ hB (by simp [shape, inn]), bset_wd_past _ _ _ _ _ _ _ hB (by simp [shape, inn]), bset_wd_past _ _ _ _ _ _ _ hB (by simp [shape, inn]), bset_wd_past _ _ _ _ _ _ _ hB (by simp [shape, inn]), bset_wd_past _ _ _ _ _ _ _ hB (by simp [shape, inn]), bset_wd _ _ _ _ _ _ _ hB rfl]
  rfl
@[go_sem] theorem wd_lsub6 {P : Program} (w : World) (L : List (Array Obj)) (n B : Nat) (S : List Nat) (p0 p1 p2 p3 p4 p5 : Array Obj) (s : Stp) (a : Option Addr) (cap : Nat) (f : Option Addr) (fc : Nat) (t : TypeId) (hB : B = w.heap.size) (hS : shape L = S) :
    (loadBlk ⟨sz B S, 1, none⟩ 18).run P (wd w (p0 :: p1 :: p2 :: p3 :: p4 :: p5 :: #[.cells (stp s a cap f fc) t] :: L) n) = .ok (rq s.q a cap) (wd w (p0 :: p1 :: p2 :: p3 :: p4 :: p5 :: #[.cells (stp s a cap f fc) t] :: L) n) :=
  load_sub _ _ s a cap f fc t (0, 0) (deep_push (deep_push (deep_push (deep_push (deep_push (deep_push (wd_at w L n B S _ hB hS)))))))
@[go_sem ↓] theorem wd_ssub6 {P : Program} (w : World) (L : List (Array Obj)) (n B : Nat) (S : List Nat) (p0 p1 p2 p3 p4 p5 : Array Obj) (s : Stp) (q : Req) (a a' : Option Addr) (cap cap' : Nat) (f : Option Addr) (fc : Nat) (t : TypeId) (hB : B = w.heap.size) (hS : shape L = S) :
    (storeCells ⟨sz B S, 1, none⟩ (rq q a' cap').toList 0).run P (wd w (p0 :: p1 :: p2 :: p3 :: p4 :: p5 :: #[.cells (stp s a cap f fc) t] :: L) n) = .ok () (wd w (p0 :: p1 :: p2 :: p3 :: p4 :: p5 :: #[.cells (stp { s with q := q } a' cap' f fc) t] :: L) n) := by
  rw [store_sub _ _ s q a a' cap cap' f fc t (deep_push (deep_push (deep_push (deep_push (deep_push (deep_push (wd_at w L n B S _ hB hS)))))))]
  congr 1
  subst hS
  rw [bset_wd_past _ _ _ _ _ _ _ hB (by simp [shape, inn]), bset_wd_past _ _ _ _ _ _ _ hB (by simp [shape, inn]), bset_wd_past _ _ _ _ _ _ _ hB (by simp [shape, inn]), bset_wd_past _ _ _ _ _ _ _ hB (by simp [shape, inn]), bset_wd_past _ _ _ _ _ _ _ hB (by simp [shape, inn]), bset_wd_past _ _ _ _ _ _ _ hB (by simp [shape, inn]), bset_wd _ _ _ _ _ _ _ hB rfl]
  rfl
@[go_sem] theorem wd_lsub7 {P : Program} (w : World) (L : List (Array Obj)) (n B : Nat) (S : List Nat) (p0 p1 p2 p3 p4 p5 p6 : Array Obj) (s : Stp) (a : Option Addr) (cap : Nat) (f : Option Addr) (fc : Nat) (t : TypeId) (hB : B = w.heap.size) (hS : shape L = S) :
    (loadBlk ⟨sz B S, 1, none⟩ 18).run P (wd w (p0 :: p1 :: p2 :: p3 :: p4 :: p5 :: p6 :: #[.cells (stp s a cap f fc) t] :: L) n) = .ok (rq s.q a cap) (wd w (p0 :: p1 :: p2 :: p3 :: p4 :: p5 :: p6 :: #[.cells (stp s a cap f fc) t] :: L) n) :=
  load_sub _ _ s a cap f fc t (0, 0) (deep_push (deep_push (deep_push (deep_push (deep_push (deep_push (deep_push (wd_at w L n B S _ hB hS))))))))
@[go_sem ↓] theorem wd_ssub7 {P : Program} (w : World) (L : List (Array Obj)) (n B : Nat) (S : List Nat) (p0 p1 p2 p3 p4 p5 p6 : Array Obj) (s : Stp) (q : Req) (a a' : Option Addr) (cap cap' : Nat) (f : Option Addr) (fc : Nat) (t : TypeId) (hB : B = w.heap.size) (hS : shape L = S) :
    (storeCells ⟨sz B S, 1, none⟩ (rq q a' cap').toList 0).run P (wd w (p0 :: p1 :: p2 :: p3 :: p4 :: p5 :: p6 :: #[.cells (stp s a cap f fc) t] :: L) n) = .ok () (wd w (p0 :: p1 :: p2 :: p3 :: p4 :: p5 :: p6 :: #[.cells (stp { s with q := q } a' cap' f fc) t] :: L) n) := by
  rw [store_sub _ _ s q a a' cap cap' f fc t (deep_push (deep_push (deep_push (deep_push (deep_push (deep_push (deep_push (wd_at w L n B S _ hB hS))))))))]
  congr 1
  subst hS
  rw [bset_wd_past _ _ _ _ _ _ _ hB (by simp [shape, inn]), bset_wd_past _ _ _ _ _ _ _ hB (by simp [shape, inn]), bset_wd_past _ _ _ _ _ _ _ hB (by simp [shape, inn]), bset_wd_past _ _ _ _ _ _ _ hB (by simp [shape, inn]), bset_wd_past _ _ _ _ _ _ _ hB (by simp [shape, inn]), bset_wd_past _ _ _ _ _ _ _ hB (by simp [shape, inn]), bset_wd_past _ _ _ _ _ _ _ hB (by simp [shape, inn]), bset_wd _ _ _ _ _ _ _ hB rfl]
  rfl
@[go_sem] theorem wd_lsub8 {P : Program} (w : World) (L : List (Array Obj)) (n B : Nat) (S : List Nat) (p0 p1 p2 p3 p4 p5 p6 p7 : Array Obj) (s : Stp) (a : Option Addr) (cap : Nat) (f : Option Addr) (fc : Nat) (t : TypeId) (hB : B = w.heap.size) (hS : shape L = S) :
    (loadBlk ⟨sz B S, 1, none⟩ 18).run P (wd w (p0 :: p1 :: p2 :: p3 :: p4 :: p5 :: p6 :: p7 :: #[.cells (stp s a cap f fc) t] :: L) n) = .ok (rq s.q a cap) (wd w (p0 :: p1 :: p2 :: p3 :: p4 :: p5 :: p6 :: p7 :: #[.cells (stp s a cap f fc) t] :: L) n) :=
  load_sub _ _ s a cap f fc t (0, 0) (deep_push (deep_push (deep_push (deep_push (deep_push (deep_push (deep_push (deep_push (wd_at w L n B S _ hB hS)))))))))
@[go_sem ↓] theorem wd_ssub8 {P : Program} (w : World) (L : List (Array Obj)) (n B : Nat) (S : List Nat) (p0 p1 p2 p3 p4 p5 p6 p7 : Array Obj) (s : Stp) (q : Req) (a a' : Option Addr) (cap cap' : Nat) (f : Option Addr) (fc : Nat) (t : TypeId) (hB : B = w.heap.size) (hS : shape L = S) :
    (storeCells ⟨sz B S, 1, none⟩ (rq q a' cap').toList 0).run P (wd w (p0 :: p1 :: p2 :: p3 :: p4 :: p5 :: p6 :: p7 :: #[.cells (stp s a cap f fc) t] :: L) n) = .ok () (wd w (p0 :: p1 :: p2 :: p3 :: p4 :: p5 :: p6 :: p7 :: #[.cells (stp { s with q := q } a' cap' f fc) t] :: L) n) := by
  rw [store_sub _ _ s q a a' cap cap' f fc t (deep_push (deep_push (deep_push (deep_push (deep_push (deep_push (deep_push (deep_push (wd_at w L n B S _ hB hS)))))))))]
  congr 1
  subst hS
  rw [bset_wd_past _ _ _ _ _ _ _ hB (by simp [shape, inn]), bset_wd_past _ _ _ _ _ _ _ hB (by simp [shape, inn]), bset_wd_past _ _ _ _ _ _ _ hB (by simp [shape, inn]), bset_wd_past _ _ _ _ _ _ _ hB (by simp [shape, inn]), bset_wd_past _ _ _ _ _ _ _ hB (by simp [shape, inn]), bset_wd_past _ _ _ _ _ _ _ hB (by simp [shape, inn]), bset_wd_past _ _ _ _ _ _ _ hB (by simp [shape, inn]), bset_wd_past _ _ _ _ _ _ _ hB (by simp [shape, inn]), bset_wd _ _ _ _ _ _ _ hB rfl]
  rfl
@[go_sem] theorem wd_lsub9 {P : Program} (w : World) (L : List (Array Obj)) (n B : Nat) (S : List Nat) (p0 p1 p2 p3 p4 p5 p6 p7 p8 : Array Obj) (s : Stp) (a : Option Addr) (cap : Nat) (f : Option Addr) (fc : Nat) (t : TypeId) (hB : B = w.heap.size) (hS : shape L = S) :
    (loadBlk ⟨sz B S, 1, none⟩ 18).run P (wd w (p0 :: p1 :: p2 :: p3 :: p4 :: p5 :: p6 :: p7 :: p8 :: #[.cells (stp s a cap f fc) t] :: L) n) = .ok (rq s.q a cap) (wd w (p0 :: p1 :: p2 :: p3 :: p4 :: p5 :: p6 :: p7 :: p8 :: #[.cells (stp s a cap f fc) t] :: L) n) :=
  load_sub _ _ s a cap f fc t (0, 0) (deep_push (deep_push (deep_push (deep_push (deep_push (deep_push (deep_push (deep_push (deep_push (wd_at w L n B S _ hB hS))))))))))
@[go_sem ↓] theorem wd_ssub9 {P : Program} (w : World) (L : List (Array Obj)) (n B : Nat) (S : List Nat) (p0 p1 p2 p3 p4 p5 p6 p7 p8 : Array Obj) (s : Stp) (q : Req) (a a' : Option Addr) (cap cap' : Nat) (f : Option Addr) (fc : Nat) (t : TypeId) (hB : B = w.heap.size) (hS : shape L = S) :
    (storeCells ⟨sz B S, 1, none⟩ (rq q a' cap').toList 0).run P (wd w (p0 :: p1 :: p2 :: p3 :: p4 :: p5 :: p6 :: p7 :: p8 :: #[.cells (stp s a cap f fc) t] :: L) n) = .ok () (wd w (p0 :: p1 :: p2 :: p3 :: p4 :: p5 :: p6 :: p7 :: p8 :: #[.cells (stp { s with q := q } a' cap' f fc) t] :: L) n) := by
  rw [store_sub _ _ s q a a' cap cap' f fc t (deep_push (deep_push (deep_push (deep_push (deep_push (deep_push (deep_push (deep_push (deep_push (wd_at w L n B S _ hB hS))))))))))]
  congr 1
  subst hS
  rw [bset_wd_past _ _ _ _ _ _ _ hB (by simp [shape, inn]), bset_wd_past _ _ _ _ _ _ _ hB (by simp [shape, inn]), bset_wd_past _ _ _ _ _ _ _ hB (by simp [shape, inn]), bset_wd_past _ _ _ _ _ _ _ hB (by simp [shape, inn]), bset_wd_past _ _ _ _ _ _ _ hB (by simp [shape, inn]), bset_wd_past _ _ _ _ _ _ _ hB (by simp [shape, inn]), bset_wd_past _ _ _ _ _ _ _ hB (by simp [shape, inn]), bset_wd_past _ _ _ _ _ _ _ hB (by simp [shape, inn]), bset_wd_past _ _ _ _ _ _ _ hB (by simp [shape, inn]), bset_wd _ _ _ _ _ _ _ hB rfl]
  rfl
end Go.Proofs.Ytejokhgabcldhaa
/- script: whether two steps are one. -/
namespace Go.Proofs.Ytejokhgabcldhaa
open Go.ChangeShapes Go.WideShapes Go.ChangeAt Go.RowKit
set_option linter.unusedVariables false
set_option linter.unusedSimpArgs false

theorem same_q (x y : Req) (a1 a2 : Option Addr) (c1 c2 : Nat) (w : World) (h1 : RecsAt w a1 x.batch.recs) (h2 : RecsAt w a2 y.batch.recs) (hm1 : x.batch.recs.length ≤ maxLen) (hm2 : y.batch.recs.length ≤ maxLen) :
    Calls Try.prog 56 #[.agg (rq x a1 c1), .agg (rq y a2 c2)] w fun e w' => e = .returned (.bool (decide (x = y))) ∧ More w w' := by
  obtain ⟨xk, xtp, xix, xpa, xco, xfl, xof, xmo, xti, xgr, xme, xge, ⟨xb0, xb1, xb2, xb3, xb4, xrs⟩⟩ := x
  obtain ⟨yk, ytp, yix, ypa, yco, yfl, yof, ymo, yti, ygr, yme, yge, ⟨yb0, yb1, yb2, yb3, yb4, yrs⟩⟩ := y
  exact same_req xk xtp xix xpa xco xfl xof xmo xti xgr xme xge xb0 xb1 xb2 xb3 xb4 xrs yk ytp yix ypa yco yfl yof ymo yti ygr yme yge yb0 yb1 yb2 yb3 yb4 yrs a1 a2 c1 c2 w h1 h2 hm1 hm2
/-- What a step's block needs to be read. -/
structure StpAt (w : World) (s : Stp) (a : Option Addr) (f : Option Addr) (fc : Nat) : Prop where
  r : RecsAt w a s.q.batch.recs
  f : RB w (.slice f s.fate.length fc) s.fate
theorem StpAt.more {w w' : World} {s : Stp} {a f : Option Addr} {fc : Nat} (h : StpAt w s a f fc) (hm : More w w') : StpAt w' s a f fc := ⟨h.r.more hm, h.f.more hm⟩
theorem stp_dec (x y : Stp) : decide (x = y) = (decide (x.kind = y.kind) && decide (x.q = y.q) && decide (x.n = y.n) && decide (x.done = y.done) && decide (x.fate = y.fate)) := by
  rw [Bool.eq_iff_iff]
  simp only [Bool.and_eq_true, decide_eq_true_eq, stp_eq, and_assoc]
set_option maxRecDepth 100000 in
set_option maxHeartbeats 3200000 in
theorem same_stp (x y : Stp) (a1 a2 : Option Addr) (c1 c2 : Nat) (f1 f2 : Option Addr) (d1 d2 : Nat) (w : World) (h1 : StpAt w x a1 f1 d1) (h2 : StpAt w y a2 f2 d2) (hm1 : x.q.batch.recs.length ≤ maxLen) (hm2 : y.q.batch.recs.length ≤ maxLen) :
    Calls Try.prog 14 #[.agg (stp x a1 c1 f1 d1), .agg (stp y a2 c2 f2 d2)] w fun e w' => e = .returned (.bool (decide (x = y))) ∧ More w w' := by
  have HQ := Lib.hid (fun W g1 g2 => same_q x.q y.q a1 a2 c1 c2 W g1 g2 hm1 hm2)
  have H1 := Lib.hid h1
  have H2 := Lib.hid h2
  have HX := Lib.hid (stp_dec x y)
  clear h1 h2 hm1 hm2
  refine calls_wd ?_
  go_enter Try.func14, Try.ntmps14
  go_wp2_with (first
    | (go_at_call 56; ((with_reducible refine (HQ.out _ (H1.out.r.more (more_wd _ _ _)) (H2.out.r.more (more_wd _ _ _))).mono ?_); rintro e w1 ⟨rfl, x1, n1, rfl⟩))
    | (go_at_call 57; ((with_reducible refine (equal_any _ _ x.fate y.fate _ (H1.out.f.more (more_wd _ _ _)) (H2.out.f.more (more_wd _ _ _))).mono ?_); rintro e w1 ⟨rfl, rfl⟩)))
  all_goals go_ret
  all_goals (refine ⟨ret_b ?_, more_wd _ _ _⟩; rw [HX.out]; clear HX HQ H1 H2; symm; simp_all <;> (intros; omega))
set_option maxRecDepth 100000 in
set_option maxHeartbeats 3200000 in
theorem rsame_stp (x y : Stp) (a1 a2 : Option Addr) (c1 c2 : Nat) (f1 f2 : Option Addr) (d1 d2 : Nat) (w : World) (h1 : StpAt w x a1 f1 d1) (h2 : StpAt w y a2 f2 d2) (hm1 : x.q.batch.recs.length ≤ maxLen) (hm2 : y.q.batch.recs.length ≤ maxLen) :
    Calls Try.prog 15 #[.agg (stp x a1 c1 f1 d1), .agg (stp y a2 c2 f2 d2)] w fun e w' => e = .returned (.bool (decide (x = y))) ∧ More w w' := by
  have HQ := Lib.hid (fun W g1 g2 => rsame_q x.q y.q a1 a2 c1 c2 W g1 g2 hm1 hm2)
  have H1 := Lib.hid h1
  have H2 := Lib.hid h2
  have HX := Lib.hid (stp_dec x y)
  have hc1 := fun (L : List (Array Obj)) (n : Nat) => (h1.f.more (more_wd w L n)).run_str (P := Try.prog) 28 9 5 Try.underlying28 Try.underlying5 Try.underlying9
  have hc2 := fun (L : List (Array Obj)) (n : Nat) => (h2.f.more (more_wd w L n)).run_str (P := Try.prog) 28 9 5 Try.underlying28 Try.underlying5 Try.underlying9
  clear h1 h2 hm1 hm2
  refine calls_wd ?_
  go_enter Try.func15, Try.ntmps15
  go_wp2_with (first
    | (go_at_call 58; ((with_reducible refine (HQ.out _ (H1.out.r.more (more_wd _ _ _)) (H2.out.r.more (more_wd _ _ _))).mono ?_); rintro e w1 ⟨rfl, x1, n1, rfl⟩)))
  all_goals go_ret
  all_goals (refine ⟨ret_b ?_, more_wd _ _ _⟩; rw [HX.out]; clear HX HQ H1 H2 hc1 hc2; symm; simp_all [str_beq] <;> (intros; omega))
end Go.Proofs.Ytejokhgabcldhaa
/- script: a step with just the fields of its kind. -/
namespace Go.Proofs.Ytejokhgabcldhaa
open Go.ChangeShapes Go.WideShapes Go.ChangeAt Go.RowKit
set_option linter.unusedVariables false
set_option linter.unusedSimpArgs false

def stpOnly (s : Stp) : Stp :=
  ⟨s.kind, if s.kind = 0 then s.q else reqBlank 0, if s.kind = 1 ∨ s.kind = 2 ∨ s.kind = 3 then s.n else 0, if s.kind = 3 then s.done else false, if s.kind = 4 then s.fate else []⟩
def soA (s : Stp) (a : Option Addr) : Option Addr := if s.kind = 0 then a else none
def soC (s : Stp) (c : Nat) : Nat := if s.kind = 0 then c else 0
def soF (s : Stp) (a : Option Addr) : Option Addr := if s.kind = 4 then a else none
def soD (s : Stp) (c : Nat) : Nat := if s.kind = 4 then c else 0
theorem only_at {W : World} {s : Stp} {a f : Option Addr} {fc : Nat} (h : StpAt W s a f fc) : StpAt W (stpOnly s) (soA s a) (soF s f) (soD s fc) := by
  refine ⟨?_, ?_⟩
  · unfold stpOnly soA
    by_cases hk : s.kind = 0
    · simp only [if_pos hk]; exact h.r
    · simp only [if_neg hk]; exact RowAt.nil _
  · unfold stpOnly soF soD
    by_cases hk : s.kind = 4
    · simp only [if_pos hk]; exact h.f
    · simp only [if_neg hk]; exact RB.nil _
theorem only_stp_len (s : Stp) (h : s.q.batch.recs.length ≤ maxLen) : (stpOnly s).q.batch.recs.length ≤ maxLen := by
  unfold stpOnly
  dsimp only
  split
  · exact h
  · exact Nat.zero_le _
theorem stpo_p0 (s : Stp) (hk : s.kind = 0) : stpOnly s = { stpBlank s.kind with q := s.q } := by unfold stpOnly; simp [stpBlank, hk]
set_option maxRecDepth 100000 in
set_option maxHeartbeats 1600000 in
theorem only_p0 (s : Stp) (a : Option Addr) (cap : Nat) (f : Option Addr) (fc : Nat) (w : World) (hk : s.kind = 0) : Calls Try.prog 49 #[.agg (stp s a cap f fc)] w fun x w' => x = .returned (.agg (stp (stpOnly s) (soA s a) (soC s cap) (soF s f) (soD s fc))) ∧ More w w' := by
  rw [show stpOnly s = { stpBlank s.kind with q := s.q } from stpo_p0 s hk, show soA s a = a by unfold soA; simp [hk], show soC s cap = cap by unfold soC; simp [hk], show soF s f = none by unfold soF; simp [hk], show soD s fc = 0 by unfold soD; simp [hk]]
  have m0 : ((s.kind : Int) == 0) = true := by rw [beq_iff_eq]; omega
  have n1 : ((s.kind : Int) == 1) = false := by rw [beq_eq_false_iff_ne]; omega
  have n2 : ((s.kind : Int) == 2) = false := by rw [beq_eq_false_iff_ne]; omega
  have n3 : ((s.kind : Int) == 3) = false := by rw [beq_eq_false_iff_ne]; omega
  have n4 : ((s.kind : Int) == 4) = false := by rw [beq_eq_false_iff_ne]; omega
  clear hk
  refine calls_wd ?_
  go_enter Try.func49, Try.ntmps49
  go_wp2
  refine bodyPost_ret (v := .agg (stp { stpBlank s.kind with q := s.q } a cap none 0)) ?_ rfl ⟨rfl, more_wd _ _ _⟩
  simp [results, Try.results49, go_sem]
  try rfl
theorem stpo_p1 (s : Stp) (hk : s.kind = 1) : stpOnly s = { stpBlank s.kind with n := s.n } := by unfold stpOnly; simp [stpBlank, hk]
set_option maxRecDepth 100000 in
set_option maxHeartbeats 1600000 in
theorem only_p1 (s : Stp) (a : Option Addr) (cap : Nat) (f : Option Addr) (fc : Nat) (w : World) (hk : s.kind = 1) : Calls Try.prog 49 #[.agg (stp s a cap f fc)] w fun x w' => x = .returned (.agg (stp (stpOnly s) (soA s a) (soC s cap) (soF s f) (soD s fc))) ∧ More w w' := by
  rw [show stpOnly s = { stpBlank s.kind with n := s.n } from stpo_p1 s hk, show soA s a = none by unfold soA; simp [hk], show soC s cap = 0 by unfold soC; simp [hk], show soF s f = none by unfold soF; simp [hk], show soD s fc = 0 by unfold soD; simp [hk]]
  have m1 : ((s.kind : Int) == 1) = true := by rw [beq_iff_eq]; omega
  have n0 : ((s.kind : Int) == 0) = false := by rw [beq_eq_false_iff_ne]; omega
  have n2 : ((s.kind : Int) == 2) = false := by rw [beq_eq_false_iff_ne]; omega
  have n3 : ((s.kind : Int) == 3) = false := by rw [beq_eq_false_iff_ne]; omega
  have n4 : ((s.kind : Int) == 4) = false := by rw [beq_eq_false_iff_ne]; omega
  clear hk
  refine calls_wd ?_
  go_enter Try.func49, Try.ntmps49
  go_wp2
  refine bodyPost_ret (v := .agg (stp { stpBlank s.kind with n := s.n } none 0 none 0)) ?_ rfl ⟨rfl, more_wd _ _ _⟩
  simp [results, Try.results49, go_sem]
  try rfl
theorem stpo_p2 (s : Stp) (hk : s.kind = 2) : stpOnly s = { stpBlank s.kind with n := s.n } := by unfold stpOnly; simp [stpBlank, hk]
set_option maxRecDepth 100000 in
set_option maxHeartbeats 1600000 in
theorem only_p2 (s : Stp) (a : Option Addr) (cap : Nat) (f : Option Addr) (fc : Nat) (w : World) (hk : s.kind = 2) : Calls Try.prog 49 #[.agg (stp s a cap f fc)] w fun x w' => x = .returned (.agg (stp (stpOnly s) (soA s a) (soC s cap) (soF s f) (soD s fc))) ∧ More w w' := by
  rw [show stpOnly s = { stpBlank s.kind with n := s.n } from stpo_p2 s hk, show soA s a = none by unfold soA; simp [hk], show soC s cap = 0 by unfold soC; simp [hk], show soF s f = none by unfold soF; simp [hk], show soD s fc = 0 by unfold soD; simp [hk]]
  have m2 : ((s.kind : Int) == 2) = true := by rw [beq_iff_eq]; omega
  have n0 : ((s.kind : Int) == 0) = false := by rw [beq_eq_false_iff_ne]; omega
  have n1 : ((s.kind : Int) == 1) = false := by rw [beq_eq_false_iff_ne]; omega
  have n3 : ((s.kind : Int) == 3) = false := by rw [beq_eq_false_iff_ne]; omega
  have n4 : ((s.kind : Int) == 4) = false := by rw [beq_eq_false_iff_ne]; omega
  clear hk
  refine calls_wd ?_
  go_enter Try.func49, Try.ntmps49
  go_wp2
  refine bodyPost_ret (v := .agg (stp { stpBlank s.kind with n := s.n } none 0 none 0)) ?_ rfl ⟨rfl, more_wd _ _ _⟩
  simp [results, Try.results49, go_sem]
  try rfl
theorem stpo_p3 (s : Stp) (hk : s.kind = 3) : stpOnly s = { ({ stpBlank s.kind with n := s.n } : Stp) with done := s.done } := by unfold stpOnly; simp [stpBlank, hk]
set_option maxRecDepth 100000 in
set_option maxHeartbeats 1600000 in
theorem only_p3 (s : Stp) (a : Option Addr) (cap : Nat) (f : Option Addr) (fc : Nat) (w : World) (hk : s.kind = 3) : Calls Try.prog 49 #[.agg (stp s a cap f fc)] w fun x w' => x = .returned (.agg (stp (stpOnly s) (soA s a) (soC s cap) (soF s f) (soD s fc))) ∧ More w w' := by
  rw [show stpOnly s = { ({ stpBlank s.kind with n := s.n } : Stp) with done := s.done } from stpo_p3 s hk, show soA s a = none by unfold soA; simp [hk], show soC s cap = 0 by unfold soC; simp [hk], show soF s f = none by unfold soF; simp [hk], show soD s fc = 0 by unfold soD; simp [hk]]
  have m3 : ((s.kind : Int) == 3) = true := by rw [beq_iff_eq]; omega
  have n0 : ((s.kind : Int) == 0) = false := by rw [beq_eq_false_iff_ne]; omega
  have n1 : ((s.kind : Int) == 1) = false := by rw [beq_eq_false_iff_ne]; omega
  have n2 : ((s.kind : Int) == 2) = false := by rw [beq_eq_false_iff_ne]; omega
  have n4 : ((s.kind : Int) == 4) = false := by rw [beq_eq_false_iff_ne]; omega
  clear hk
  refine calls_wd ?_
  go_enter Try.func49, Try.ntmps49
  go_wp2
  refine wp_region_mixf (fun (x : Stp × Option Addr × Nat × Option Addr × Nat) => wd w [#[.cells (stp x.1 x.2.1 x.2.2.1 x.2.2.2.1 x.2.2.2.2) 36], #[.cells (stp (stpBlank 0) none 0 none 0) 36], #[.cells (stp s a cap f fc) 36]] (w.drawn + 1)) ((stpBlank s.kind, none, 0, none, 0)) [0, 1, 2, 3, 4] [5, 6, 7] [true, true, true, true, true] [false, false, false, false, false, true, true, true] rfl ⟨rfl, rfl⟩ (by kernel_rfl) (by kernel_rfl) (fun _ _ d _ _ h => by cases d <;> exact h) ?_
  apply Exists.intro
  refine ⟨?_, ?_⟩
  · intro E
    simp only [sel_t, sel_f, sel_n]
    repeat (go_big_quiet_step ((fail)))
    exact wpQuiet_nil rfl
  simp only [sel_t, sel_f, sel_n, loudly_cons, loudly_nil]
  go_wp2
  refine ⟨⟨(_, _, _, _, _), rfl⟩, ?_⟩
  rw [loudly_cons]
  go_wp2
  refine ⟨⟨(_, _, _, _, _), rfl⟩, ?_⟩
  rw [loudly_cons]
  go_wp2
  refine ⟨⟨(_, _, _, _, _), rfl⟩, ?_⟩
  rw [loudly_nil]
  go_wp2
  refine bodyPost_ret (v := .agg (stp { ({ stpBlank s.kind with n := s.n } : Stp) with done := s.done } none 0 none 0)) ?_ rfl ⟨rfl, more_wd _ _ _⟩
  simp [results, Try.results49, go_sem]
  try rfl
theorem stpo_p4 (s : Stp) (hk : s.kind = 4) : stpOnly s = { stpBlank s.kind with fate := s.fate } := by unfold stpOnly; simp [stpBlank, hk]
set_option maxRecDepth 100000 in
set_option maxHeartbeats 1600000 in
theorem only_p4 (s : Stp) (a : Option Addr) (cap : Nat) (f : Option Addr) (fc : Nat) (w : World) (hk : s.kind = 4) : Calls Try.prog 49 #[.agg (stp s a cap f fc)] w fun x w' => x = .returned (.agg (stp (stpOnly s) (soA s a) (soC s cap) (soF s f) (soD s fc))) ∧ More w w' := by
  rw [show stpOnly s = { stpBlank s.kind with fate := s.fate } from stpo_p4 s hk, show soA s a = none by unfold soA; simp [hk], show soC s cap = 0 by unfold soC; simp [hk], show soF s f = f by unfold soF; simp [hk], show soD s fc = fc by unfold soD; simp [hk]]
  have m4 : ((s.kind : Int) == 4) = true := by rw [beq_iff_eq]; omega
  have n0 : ((s.kind : Int) == 0) = false := by rw [beq_eq_false_iff_ne]; omega
  have n1 : ((s.kind : Int) == 1) = false := by rw [beq_eq_false_iff_ne]; omega
  have n2 : ((s.kind : Int) == 2) = false := by rw [beq_eq_false_iff_ne]; omega
  have n3 : ((s.kind : Int) == 3) = false := by rw [beq_eq_false_iff_ne]; omega
  clear hk
  refine calls_wd ?_
  go_enter Try.func49, Try.ntmps49
  go_wp2
  refine bodyPost_ret (v := .agg (stp { stpBlank s.kind with fate := s.fate } none 0 f fc)) ?_ rfl ⟨rfl, more_wd _ _ _⟩
  simp [results, Try.results49, go_sem]
  try rfl
theorem stpo_p5 (s : Stp) (hk : 4 < s.kind) : stpOnly s = (stpBlank s.kind) := by unfold stpOnly; simp [stpBlank, show ¬ s.kind = 0 by omega, show ¬ s.kind = 1 by omega, show ¬ s.kind = 2 by omega, show ¬ s.kind = 3 by omega, show ¬ s.kind = 4 by omega]
set_option maxRecDepth 100000 in
set_option maxHeartbeats 1600000 in
theorem only_p5 (s : Stp) (a : Option Addr) (cap : Nat) (f : Option Addr) (fc : Nat) (w : World) (hk : 4 < s.kind) : Calls Try.prog 49 #[.agg (stp s a cap f fc)] w fun x w' => x = .returned (.agg (stp (stpOnly s) (soA s a) (soC s cap) (soF s f) (soD s fc))) ∧ More w w' := by
  rw [show stpOnly s = (stpBlank s.kind) from stpo_p5 s hk, show soA s a = none by unfold soA; simp [show ¬ s.kind = 0 by omega], show soC s cap = 0 by unfold soC; simp [show ¬ s.kind = 0 by omega], show soF s f = none by unfold soF; simp [show ¬ s.kind = 4 by omega], show soD s fc = 0 by unfold soD; simp [show ¬ s.kind = 4 by omega]]
  have n0 : ((s.kind : Int) == 0) = false := by rw [beq_eq_false_iff_ne]; omega
  have n1 : ((s.kind : Int) == 1) = false := by rw [beq_eq_false_iff_ne]; omega
  have n2 : ((s.kind : Int) == 2) = false := by rw [beq_eq_false_iff_ne]; omega
  have n3 : ((s.kind : Int) == 3) = false := by rw [beq_eq_false_iff_ne]; omega
  have n4 : ((s.kind : Int) == 4) = false := by rw [beq_eq_false_iff_ne]; omega
  clear hk
  refine calls_wd ?_
  go_enter Try.func49, Try.ntmps49
  go_wp2
  refine bodyPost_ret (v := .agg (stp (stpBlank s.kind) none 0 none 0)) ?_ rfl ⟨rfl, more_wd _ _ _⟩
  simp [results, Try.results49, go_sem]
  try rfl
theorem only_p (s : Stp) (a : Option Addr) (cap : Nat) (f : Option Addr) (fc : Nat) (w : World) : Calls Try.prog 49 #[.agg (stp s a cap f fc)] w fun x w' => x = .returned (.agg (stp (stpOnly s) (soA s a) (soC s cap) (soF s f) (soD s fc))) ∧ More w w' := by
  rcases (show s.kind = 0 ∨ s.kind = 1 ∨ s.kind = 2 ∨ s.kind = 3 ∨ s.kind = 4 ∨ 4 < s.kind by omega) with h | h | h | h | h | h
  · exact only_p0 s a cap f fc w h
  · exact only_p1 s a cap f fc w h
  · exact only_p2 s a cap f fc w h
  · exact only_p3 s a cap f fc w h
  · exact only_p4 s a cap f fc w h
  · exact only_p5 s a cap f fc w h
theorem stpo_r0 (s : Stp) (hk : s.kind = 0) : stpOnly s = { stpBlank s.kind with q := s.q } := by unfold stpOnly; simp [stpBlank, hk]
set_option maxRecDepth 100000 in
set_option maxHeartbeats 1600000 in
theorem only_r0 (s : Stp) (a : Option Addr) (cap : Nat) (f : Option Addr) (fc : Nat) (w : World) (hk : s.kind = 0) : Calls Try.prog 53 #[.agg (stp s a cap f fc)] w fun x w' => x = .returned (.agg (stp (stpOnly s) (soA s a) (soC s cap) (soF s f) (soD s fc))) ∧ More w w' := by
  rw [show stpOnly s = { stpBlank s.kind with q := s.q } from stpo_r0 s hk, show soA s a = a by unfold soA; simp [hk], show soC s cap = cap by unfold soC; simp [hk], show soF s f = none by unfold soF; simp [hk], show soD s fc = 0 by unfold soD; simp [hk]]
  have m0 : ((s.kind : Int) == 0) = true := by rw [beq_iff_eq]; omega
  have n1 : ((s.kind : Int) == 1) = false := by rw [beq_eq_false_iff_ne]; omega
  have n2 : ((s.kind : Int) == 2) = false := by rw [beq_eq_false_iff_ne]; omega
  have n3 : ((s.kind : Int) == 3) = false := by rw [beq_eq_false_iff_ne]; omega
  have n4 : ((s.kind : Int) == 4) = false := by rw [beq_eq_false_iff_ne]; omega
  clear hk
  refine calls_wd ?_
  go_enter Try.func53, Try.ntmps53
  go_wp2
  refine bodyPost_ret (v := .agg (stp { stpBlank s.kind with q := s.q } a cap none 0)) ?_ rfl ⟨rfl, more_wd _ _ _⟩
  simp [results, Try.results53, go_sem]
  try rfl
theorem stpo_r1 (s : Stp) (hk : s.kind = 1) : stpOnly s = { stpBlank s.kind with n := s.n } := by unfold stpOnly; simp [stpBlank, hk]
set_option maxRecDepth 100000 in
set_option maxHeartbeats 1600000 in
theorem only_r1 (s : Stp) (a : Option Addr) (cap : Nat) (f : Option Addr) (fc : Nat) (w : World) (hk : s.kind = 1) : Calls Try.prog 53 #[.agg (stp s a cap f fc)] w fun x w' => x = .returned (.agg (stp (stpOnly s) (soA s a) (soC s cap) (soF s f) (soD s fc))) ∧ More w w' := by
  rw [show stpOnly s = { stpBlank s.kind with n := s.n } from stpo_r1 s hk, show soA s a = none by unfold soA; simp [hk], show soC s cap = 0 by unfold soC; simp [hk], show soF s f = none by unfold soF; simp [hk], show soD s fc = 0 by unfold soD; simp [hk]]
  have m1 : ((s.kind : Int) == 1) = true := by rw [beq_iff_eq]; omega
  have n0 : ((s.kind : Int) == 0) = false := by rw [beq_eq_false_iff_ne]; omega
  have n2 : ((s.kind : Int) == 2) = false := by rw [beq_eq_false_iff_ne]; omega
  have n3 : ((s.kind : Int) == 3) = false := by rw [beq_eq_false_iff_ne]; omega
  have n4 : ((s.kind : Int) == 4) = false := by rw [beq_eq_false_iff_ne]; omega
  clear hk
  refine calls_wd ?_
  go_enter Try.func53, Try.ntmps53
  go_wp2
  refine bodyPost_ret (v := .agg (stp { stpBlank s.kind with n := s.n } none 0 none 0)) ?_ rfl ⟨rfl, more_wd _ _ _⟩
  simp [results, Try.results53, go_sem]
  try rfl
theorem stpo_r2 (s : Stp) (hk : s.kind = 2) : stpOnly s = { stpBlank s.kind with n := s.n } := by unfold stpOnly; simp [stpBlank, hk]
set_option maxRecDepth 100000 in
set_option maxHeartbeats 1600000 in
theorem only_r2 (s : Stp) (a : Option Addr) (cap : Nat) (f : Option Addr) (fc : Nat) (w : World) (hk : s.kind = 2) : Calls Try.prog 53 #[.agg (stp s a cap f fc)] w fun x w' => x = .returned (.agg (stp (stpOnly s) (soA s a) (soC s cap) (soF s f) (soD s fc))) ∧ More w w' := by
  rw [show stpOnly s = { stpBlank s.kind with n := s.n } from stpo_r2 s hk, show soA s a = none by unfold soA; simp [hk], show soC s cap = 0 by unfold soC; simp [hk], show soF s f = none by unfold soF; simp [hk], show soD s fc = 0 by unfold soD; simp [hk]]
  have m2 : ((s.kind : Int) == 2) = true := by rw [beq_iff_eq]; omega
  have n0 : ((s.kind : Int) == 0) = false := by rw [beq_eq_false_iff_ne]; omega
  have n1 : ((s.kind : Int) == 1) = false := by rw [beq_eq_false_iff_ne]; omega
  have n3 : ((s.kind : Int) == 3) = false := by rw [beq_eq_false_iff_ne]; omega
  have n4 : ((s.kind : Int) == 4) = false := by rw [beq_eq_false_iff_ne]; omega
  clear hk
  refine calls_wd ?_
  go_enter Try.func53, Try.ntmps53
  go_wp2
  refine bodyPost_ret (v := .agg (stp { stpBlank s.kind with n := s.n } none 0 none 0)) ?_ rfl ⟨rfl, more_wd _ _ _⟩
  simp [results, Try.results53, go_sem]
  try rfl
theorem stpo_r3 (s : Stp) (hk : s.kind = 3) : stpOnly s = { ({ stpBlank s.kind with n := s.n } : Stp) with done := s.done } := by unfold stpOnly; simp [stpBlank, hk]
set_option maxRecDepth 100000 in
set_option maxHeartbeats 1600000 in
theorem only_r3 (s : Stp) (a : Option Addr) (cap : Nat) (f : Option Addr) (fc : Nat) (w : World) (hk : s.kind = 3) : Calls Try.prog 53 #[.agg (stp s a cap f fc)] w fun x w' => x = .returned (.agg (stp (stpOnly s) (soA s a) (soC s cap) (soF s f) (soD s fc))) ∧ More w w' := by
  rw [show stpOnly s = { ({ stpBlank s.kind with n := s.n } : Stp) with done := s.done } from stpo_r3 s hk, show soA s a = none by unfold soA; simp [hk], show soC s cap = 0 by unfold soC; simp [hk], show soF s f = none by unfold soF; simp [hk], show soD s fc = 0 by unfold soD; simp [hk]]
  have m3 : ((s.kind : Int) == 3) = true := by rw [beq_iff_eq]; omega
  have n0 : ((s.kind : Int) == 0) = false := by rw [beq_eq_false_iff_ne]; omega
  have n1 : ((s.kind : Int) == 1) = false := by rw [beq_eq_false_iff_ne]; omega
  have n2 : ((s.kind : Int) == 2) = false := by rw [beq_eq_false_iff_ne]; omega
  have n4 : ((s.kind : Int) == 4) = false := by rw [beq_eq_false_iff_ne]; omega
  clear hk
  refine calls_wd ?_
  go_enter Try.func53, Try.ntmps53
  go_wp2
  refine wp_region_mixf (fun (x : Stp × Option Addr × Nat × Option Addr × Nat) => wd w [#[.cells (stp x.1 x.2.1 x.2.2.1 x.2.2.2.1 x.2.2.2.2) 30], #[.cells (stp (stpBlank 0) none 0 none 0) 30], #[.cells (stp s a cap f fc) 30]] (w.drawn + 1)) ((stpBlank s.kind, none, 0, none, 0)) [0, 1, 2, 3, 4] [5, 6, 7] [true, true, true, true, true] [false, false, false, false, false, true, true, true] rfl ⟨rfl, rfl⟩ (by kernel_rfl) (by kernel_rfl) (fun _ _ d _ _ h => by cases d <;> exact h) ?_
  apply Exists.intro
  refine ⟨?_, ?_⟩
  · intro E
    simp only [sel_t, sel_f, sel_n]
    repeat (go_big_quiet_step ((fail)))
    exact wpQuiet_nil rfl
  simp only [sel_t, sel_f, sel_n, loudly_cons, loudly_nil]
  go_wp2
  refine ⟨⟨(_, _, _, _, _), rfl⟩, ?_⟩
  rw [loudly_cons]
  go_wp2
  refine ⟨⟨(_, _, _, _, _), rfl⟩, ?_⟩
  rw [loudly_cons]
  go_wp2
  refine ⟨⟨(_, _, _, _, _), rfl⟩, ?_⟩
  rw [loudly_nil]
  go_wp2
  refine bodyPost_ret (v := .agg (stp { ({ stpBlank s.kind with n := s.n } : Stp) with done := s.done } none 0 none 0)) ?_ rfl ⟨rfl, more_wd _ _ _⟩
  simp [results, Try.results53, go_sem]
  try rfl
theorem stpo_r4 (s : Stp) (hk : s.kind = 4) : stpOnly s = { stpBlank s.kind with fate := s.fate } := by unfold stpOnly; simp [stpBlank, hk]
set_option maxRecDepth 100000 in
set_option maxHeartbeats 1600000 in
theorem only_r4 (s : Stp) (a : Option Addr) (cap : Nat) (f : Option Addr) (fc : Nat) (w : World) (hk : s.kind = 4) : Calls Try.prog 53 #[.agg (stp s a cap f fc)] w fun x w' => x = .returned (.agg (stp (stpOnly s) (soA s a) (soC s cap) (soF s f) (soD s fc))) ∧ More w w' := by
  rw [show stpOnly s = { stpBlank s.kind with fate := s.fate } from stpo_r4 s hk, show soA s a = none by unfold soA; simp [hk], show soC s cap = 0 by unfold soC; simp [hk], show soF s f = f by unfold soF; simp [hk], show soD s fc = fc by unfold soD; simp [hk]]
  have m4 : ((s.kind : Int) == 4) = true := by rw [beq_iff_eq]; omega
  have n0 : ((s.kind : Int) == 0) = false := by rw [beq_eq_false_iff_ne]; omega
  have n1 : ((s.kind : Int) == 1) = false := by rw [beq_eq_false_iff_ne]; omega
  have n2 : ((s.kind : Int) == 2) = false := by rw [beq_eq_false_iff_ne]; omega
  have n3 : ((s.kind : Int) == 3) = false := by rw [beq_eq_false_iff_ne]; omega
  clear hk
  refine calls_wd ?_
  go_enter Try.func53, Try.ntmps53
  go_wp2
  refine bodyPost_ret (v := .agg (stp { stpBlank s.kind with fate := s.fate } none 0 f fc)) ?_ rfl ⟨rfl, more_wd _ _ _⟩
  simp [results, Try.results53, go_sem]
  try rfl
theorem stpo_r5 (s : Stp) (hk : 4 < s.kind) : stpOnly s = (stpBlank s.kind) := by unfold stpOnly; simp [stpBlank, show ¬ s.kind = 0 by omega, show ¬ s.kind = 1 by omega, show ¬ s.kind = 2 by omega, show ¬ s.kind = 3 by omega, show ¬ s.kind = 4 by omega]
set_option maxRecDepth 100000 in
set_option maxHeartbeats 1600000 in
theorem only_r5 (s : Stp) (a : Option Addr) (cap : Nat) (f : Option Addr) (fc : Nat) (w : World) (hk : 4 < s.kind) : Calls Try.prog 53 #[.agg (stp s a cap f fc)] w fun x w' => x = .returned (.agg (stp (stpOnly s) (soA s a) (soC s cap) (soF s f) (soD s fc))) ∧ More w w' := by
  rw [show stpOnly s = (stpBlank s.kind) from stpo_r5 s hk, show soA s a = none by unfold soA; simp [show ¬ s.kind = 0 by omega], show soC s cap = 0 by unfold soC; simp [show ¬ s.kind = 0 by omega], show soF s f = none by unfold soF; simp [show ¬ s.kind = 4 by omega], show soD s fc = 0 by unfold soD; simp [show ¬ s.kind = 4 by omega]]
  have n0 : ((s.kind : Int) == 0) = false := by rw [beq_eq_false_iff_ne]; omega
  have n1 : ((s.kind : Int) == 1) = false := by rw [beq_eq_false_iff_ne]; omega
  have n2 : ((s.kind : Int) == 2) = false := by rw [beq_eq_false_iff_ne]; omega
  have n3 : ((s.kind : Int) == 3) = false := by rw [beq_eq_false_iff_ne]; omega
  have n4 : ((s.kind : Int) == 4) = false := by rw [beq_eq_false_iff_ne]; omega
  clear hk
  refine calls_wd ?_
  go_enter Try.func53, Try.ntmps53
  go_wp2
  refine bodyPost_ret (v := .agg (stp (stpBlank s.kind) none 0 none 0)) ?_ rfl ⟨rfl, more_wd _ _ _⟩
  simp [results, Try.results53, go_sem]
  try rfl
theorem only_r (s : Stp) (a : Option Addr) (cap : Nat) (f : Option Addr) (fc : Nat) (w : World) : Calls Try.prog 53 #[.agg (stp s a cap f fc)] w fun x w' => x = .returned (.agg (stp (stpOnly s) (soA s a) (soC s cap) (soF s f) (soD s fc))) ∧ More w w' := by
  rcases (show s.kind = 0 ∨ s.kind = 1 ∨ s.kind = 2 ∨ s.kind = 3 ∨ s.kind = 4 ∨ 4 < s.kind by omega) with h | h | h | h | h | h
  · exact only_r0 s a cap f fc w h
  · exact only_r1 s a cap f fc w h
  · exact only_r2 s a cap f fc w h
  · exact only_r3 s a cap f fc w h
  · exact only_r4 s a cap f fc w h
  · exact only_r5 s a cap f fc w h
end Go.Proofs.Ytejokhgabcldhaa
/- script: a step as bytes: plain. -/
namespace Go.Proofs.Ytejokhgabcldhaa
open Go.ChangeShapes Go.WideShapes Go.ChangeAt Go.RowKit
set_option linter.unusedVariables false
set_option linter.unusedSimpArgs false

def stpBody (s : Stp) : List UInt8 :=
  if s.kind = 0 then (reqPut s.q).1 else if s.kind = 1 ∨ s.kind = 2 then put s.n else if s.kind = 3 then put s.n ++ flagB s.done else s.fate
def stpPut (s : Stp) : List UInt8 × Int :=
  if 5 < s.kind then ([], 2)
  else if s ≠ stpOnly s then ([], 4)
  else if 64 < s.fate.length then ([], 5)
  else if s.kind = 0 ∧ (reqPut s.q).2 ≠ 0 then ([], (reqPut s.q).2)
  else (UInt8.ofNat s.kind :: stpBody s, 0)
/-- A step that may be laid. -/
structure StpFit (s : Stp) : Prop where
  k : s.kind < 256
  qk : s.q.kind < 256
  wf : s.q.wf
  t : s.q.topic.length ≤ maxLen
  g : s.q.group.length ≤ maxLen
  m : s.q.member.length ≤ maxLen
  r : s.q.batch.recs.length ≤ maxLen
  n : I64 s.n
theorem stpPut_big {s : Stp} (h : 5 < s.kind) : stpPut s = ([], 2) := by unfold stpPut; rw [if_pos h]
theorem stpPut_alien {s : Stp} (h : ¬ 5 < s.kind) (h2 : s ≠ stpOnly s) : stpPut s = ([], 4) := by unfold stpPut; rw [if_neg h, if_pos h2]
theorem stpPut_long {s : Stp} (h : ¬ 5 < s.kind) (h2 : s = stpOnly s) (h3 : 64 < s.fate.length) : stpPut s = ([], 5) := by unfold stpPut; rw [if_neg h, if_neg (by simp [← h2]), if_pos h3]
theorem stpPut_no {s : Stp} (h : ¬ 5 < s.kind) (h2 : s = stpOnly s) (h3 : ¬ 64 < s.fate.length) (h4 : s.kind = 0 ∧ (reqPut s.q).2 ≠ 0) : stpPut s = ([], (reqPut s.q).2) := by unfold stpPut; rw [if_neg h, if_neg (by simp [← h2]), if_neg h3, if_pos h4]
theorem stpPut_go {s : Stp} (h : ¬ 5 < s.kind) (h2 : s = stpOnly s) (h3 : ¬ 64 < s.fate.length) (h4 : ¬ (s.kind = 0 ∧ (reqPut s.q).2 ≠ 0)) : stpPut s = (UInt8.ofNat s.kind :: stpBody s, 0) := by unfold stpPut; rw [if_neg h, if_neg (by simp [← h2]), if_neg h3, if_neg h4]
theorem only_fate {s : Stp} (h : s = stpOnly s) (h4 : s.kind ≠ 4) : s.fate = [] := by
  have h1 := congrArg Stp.fate h
  rw [h1]; unfold stpOnly; simp [h4]
theorem reqPut_len {q : Req} (h : (reqPut q).2 = 0) (hw : q.wf) : (reqPut q).1.length ≤ 100000 := by
  obtain ⟨h1, h2, h3, h4, h5, h6, h7⟩ := reqPut_ok (q := q) (l := (reqPut q).1) (Prod.ext rfl h)
  rw [h7]
  unfold reqBytes
  have hb : (if q.kind = 3 then (reqBat q).1 else []).length ≤ 8192 := by
    by_cases hk : q.kind = 3
    · rw [if_pos hk]
      obtain ⟨g1, g2, g3, g4⟩ := batPut_ok (b := { q.batch with base := 0 }) (l := (reqBat q).1) (Prod.ext rfl (h6 hk).1)
      rw [g1]; exact g4
    · rw [if_neg hk]; exact Nat.zero_le _
  have := fields_len q (if q.kind = 3 then (reqBat q).1 else []) hw h3 h4 h5 hb (usesL q.kind)
  have := uses_len q.kind
  rw [List.length_cons]; omega
end Go.Proofs.Ytejokhgabcldhaa
