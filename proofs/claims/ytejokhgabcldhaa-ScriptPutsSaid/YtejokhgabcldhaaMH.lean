/- A whole block loaded at once. -/
import Derived.Test.YtejokhgabcldhaaMA
import Derived.Test.YtejokhgabcldhaaMG
namespace Go.Proofs.Ytejokhgabcldhaa
open Go.RowKit
set_option linter.unusedVariables false
set_option linter.unusedSimpArgs false

/-- A result, with a piece more upon its world. -/
def upTop {α : Type} (W : World) : Result α → Result α
  | .ok a _ => .ok a W
  | .halt x _ => .halt x W
theorem load_block {P : Program} (W : World) (b k : Nat) (C : Array Value) (t : TypeId) (fr : Nat × Nat) (h : W.heap[b]? = some (.cells C t fr)) (hk : C.size = k) :
    (loadCellsFrom ⟨b, 0, none⟩ 0 k #[]).run P W = .ok C W := by
  subst hk
  have h1 := run_loadCells_list (P := P) (w := W) ⟨b, 0, none⟩ C.toList (fun j v hv => by
    rw [addr_add0]
    simp only [World.cell?, h]
    simpa using hv)
  simpa [loadCells] using h1
theorem wd_load {P : Program} (w : World) (L : List (Array Obj)) (n B k : Nat) (S : List Nat) (C : Array Value) (t : TypeId) (fr : Nat × Nat) (hB : B = w.heap.size) (hS : shape L = S) (hk : C.size = k) :
    (loadCellsFrom ⟨sz B S, 0, none⟩ 0 k #[]).run P (wd w (#[.cells C t fr] :: L) n) = .ok C (wd w (#[.cells C t fr] :: L) n) :=
  load_block _ _ _ C t fr (wd_at w L n B S _ hB hS) hk
theorem load_past {P : Program} (W W' : World) (b k : Nat) (h : ∀ i, W'.cell? ⟨b, i, none⟩ = W.cell? ⟨b, i, none⟩) (C : Array Value) (hl : (loadCellsFrom ⟨b, 0, none⟩ 0 k #[]).run P W = .ok C W) (hc : ∀ i, i < k → W.cell? ⟨b, i, none⟩ = C[i]?) (hk : C.size = k) :
    (loadCellsFrom ⟨b, 0, none⟩ 0 k #[]).run P W' = .ok C W' := by
  subst hk
  have h1 := run_loadCells_list (P := P) (w := W') ⟨b, 0, none⟩ C.toList (fun j v hv => by
    have hj : j < C.size := by simpa using (List.getElem?_eq_some_iff.1 hv).1
    rw [addr_add0, h, hc j hj]
    simpa using hv)
  simpa [loadCells] using h1
theorem wd_load1 {P : Program} (w : World) (L : List (Array Obj)) (n B k : Nat) (S : List Nat) (a : Array Obj) (C : Array Value) (t : TypeId) (fr : Nat × Nat) (hB : B = w.heap.size) (hS : shape L = S) (hk : C.size = k) :
    (loadCellsFrom ⟨sz B S, 0, none⟩ 0 k #[]).run P (wd w (a :: #[.cells C t fr] :: L) n) = .ok C (wd w (a :: #[.cells C t fr] :: L) n) :=
  load_block _ _ _ C t fr (by rw [wd_past w _ n B S a hB (by rw [shape_cons, inn_cons]; exact .inl ⟨rfl, hS⟩)]; exact wd_at w L n B S _ hB hS) hk
theorem wd_load2 {P : Program} (w : World) (L : List (Array Obj)) (n B k : Nat) (S : List Nat) (a b : Array Obj) (C : Array Value) (t : TypeId) (fr : Nat × Nat) (hB : B = w.heap.size) (hS : shape L = S) (hk : C.size = k) :
    (loadCellsFrom ⟨sz B S, 0, none⟩ 0 k #[]).run P (wd w (a :: b :: #[.cells C t fr] :: L) n) = .ok C (wd w (a :: b :: #[.cells C t fr] :: L) n) :=
  load_block _ _ _ C t fr (by
    rw [wd_past w _ n B S a hB (by rw [shape_cons, shape_cons, inn_cons, inn_cons]; exact .inr (.inl ⟨rfl, hS⟩)), wd_past w _ n B S b hB (by rw [shape_cons, inn_cons]; exact .inl ⟨rfl, hS⟩)]
    exact wd_at w L n B S _ hB hS) hk
theorem wd_load3 {P : Program} (w : World) (L : List (Array Obj)) (n B k : Nat) (S : List Nat) (a b c : Array Obj) (C : Array Value) (t : TypeId) (fr : Nat × Nat) (hB : B = w.heap.size) (hS : shape L = S) (hk : C.size = k) :
    (loadCellsFrom ⟨sz B S, 0, none⟩ 0 k #[]).run P (wd w (a :: b :: c :: #[.cells C t fr] :: L) n) = .ok C (wd w (a :: b :: c :: #[.cells C t fr] :: L) n) :=
  load_block _ _ _ C t fr (by
    rw [wd_past w _ n B S a hB (by rw [shape_cons, shape_cons, shape_cons, inn_cons, inn_cons, inn_cons]; exact .inr (.inr (.inl ⟨rfl, hS⟩))), wd_past w _ n B S b hB (by rw [shape_cons, shape_cons, inn_cons, inn_cons]; exact .inr (.inl ⟨rfl, hS⟩)), wd_past w _ n B S c hB (by rw [shape_cons, inn_cons]; exact .inl ⟨rfl, hS⟩)]
    exact wd_at w L n B S _ hB hS) hk
theorem deep_push {w : World} {L : List (Array Obj)} {n k : Nat} {o : Obj} {d : Array Obj} (h : (wd w L n).heap[k]? = some o) : (wd w (d :: L) n).heap[k]? = some o := by
  have e1 : wd w (d :: L) n = plus (wd w L n) d n := rfl
  rw [e1, plus_block _ _ _ _ (Array.getElem?_eq_some_iff.1 h).1]
  exact h
theorem wd_load4 {P : Program} (w : World) (L : List (Array Obj)) (n B k : Nat) (S : List Nat) (p0 p1 p2 p3 : Array Obj) (C : Array Value) (t : TypeId) (fr : Nat × Nat) (hB : B = w.heap.size) (hS : shape L = S) (hk : C.size = k) :
    (loadCellsFrom ⟨sz B S, 0, none⟩ 0 k #[]).run P (wd w (p0 :: p1 :: p2 :: p3 :: #[.cells C t fr] :: L) n) = .ok C (wd w (p0 :: p1 :: p2 :: p3 :: #[.cells C t fr] :: L) n) :=
  load_block _ _ _ C t fr (deep_push (deep_push (deep_push (deep_push (wd_at w L n B S _ hB hS))))) hk
theorem wd_load5 {P : Program} (w : World) (L : List (Array Obj)) (n B k : Nat) (S : List Nat) (p0 p1 p2 p3 p4 : Array Obj) (C : Array Value) (t : TypeId) (fr : Nat × Nat) (hB : B = w.heap.size) (hS : shape L = S) (hk : C.size = k) :
    (loadCellsFrom ⟨sz B S, 0, none⟩ 0 k #[]).run P (wd w (p0 :: p1 :: p2 :: p3 :: p4 :: #[.cells C t fr] :: L) n) = .ok C (wd w (p0 :: p1 :: p2 :: p3 :: p4 :: #[.cells C t fr] :: L) n) :=
  load_block _ _ _ C t fr (deep_push (deep_push (deep_push (deep_push (deep_push (wd_at w L n B S _ hB hS)))))) hk
theorem wd_load6 {P : Program} (w : World) (L : List (Array Obj)) (n B k : Nat) (S : List Nat) (p0 p1 p2 p3 p4 p5 : Array Obj) (C : Array Value) (t : TypeId) (fr : Nat × Nat) (hB : B = w.heap.size) (hS : shape L = S) (hk : C.size = k) :
    (loadCellsFrom ⟨sz B S, 0, none⟩ 0 k #[]).run P (wd w (p0 :: p1 :: p2 :: p3 :: p4 :: p5 :: #[.cells C t fr] :: L) n) = .ok C (wd w (p0 :: p1 :: p2 :: p3 :: p4 :: p5 :: #[.cells C t fr] :: L) n) :=
  load_block _ _ _ C t fr (deep_push (deep_push (deep_push (deep_push (deep_push (deep_push (wd_at w L n B S _ hB hS))))))) hk
theorem wd_load7 {P : Program} (w : World) (L : List (Array Obj)) (n B k : Nat) (S : List Nat) (p0 p1 p2 p3 p4 p5 p6 : Array Obj) (C : Array Value) (t : TypeId) (fr : Nat × Nat) (hB : B = w.heap.size) (hS : shape L = S) (hk : C.size = k) :
    (loadCellsFrom ⟨sz B S, 0, none⟩ 0 k #[]).run P (wd w (p0 :: p1 :: p2 :: p3 :: p4 :: p5 :: p6 :: #[.cells C t fr] :: L) n) = .ok C (wd w (p0 :: p1 :: p2 :: p3 :: p4 :: p5 :: p6 :: #[.cells C t fr] :: L) n) :=
  load_block _ _ _ C t fr (deep_push (deep_push (deep_push (deep_push (deep_push (deep_push (deep_push (wd_at w L n B S _ hB hS)))))))) hk
theorem wd_load8 {P : Program} (w : World) (L : List (Array Obj)) (n B k : Nat) (S : List Nat) (p0 p1 p2 p3 p4 p5 p6 p7 : Array Obj) (C : Array Value) (t : TypeId) (fr : Nat × Nat) (hB : B = w.heap.size) (hS : shape L = S) (hk : C.size = k) :
    (loadCellsFrom ⟨sz B S, 0, none⟩ 0 k #[]).run P (wd w (p0 :: p1 :: p2 :: p3 :: p4 :: p5 :: p6 :: p7 :: #[.cells C t fr] :: L) n) = .ok C (wd w (p0 :: p1 :: p2 :: p3 :: p4 :: p5 :: p6 :: p7 :: #[.cells C t fr] :: L) n) :=
  load_block _ _ _ C t fr (deep_push (deep_push (deep_push (deep_push (deep_push (deep_push (deep_push (deep_push (wd_at w L n B S _ hB hS))))))))) hk
theorem wd_load9 {P : Program} (w : World) (L : List (Array Obj)) (n B k : Nat) (S : List Nat) (p0 p1 p2 p3 p4 p5 p6 p7 p8 : Array Obj) (C : Array Value) (t : TypeId) (fr : Nat × Nat) (hB : B = w.heap.size) (hS : shape L = S) (hk : C.size = k) :
    (loadCellsFrom ⟨sz B S, 0, none⟩ 0 k #[]).run P (wd w (p0 :: p1 :: p2 :: p3 :: p4 :: p5 :: p6 :: p7 :: p8 :: #[.cells C t fr] :: L) n) = .ok C (wd w (p0 :: p1 :: p2 :: p3 :: p4 :: p5 :: p6 :: p7 :: p8 :: #[.cells C t fr] :: L) n) :=
  load_block _ _ _ C t fr (deep_push (deep_push (deep_push (deep_push (deep_push (deep_push (deep_push (deep_push (deep_push (wd_at w L n B S _ hB hS)))))))))) hk
/-- A whole block, not yet loaded: so that no walk unrolls it under a binder. -/
def loadBlk (a : Addr) (k : Nat) : Sem (Array Value) := loadCellsFrom a 0 k #[]
@[go_sem ↓] theorem fold_18 (a : Addr) : loadCellsFrom a 0 18 #[] = loadBlk a 18 := rfl
@[go_sem ↓] theorem fold_22 (a : Addr) : loadCellsFrom a 0 22 #[] = loadBlk a 22 := rfl
@[go_sem] theorem wd_loadb {P : Program} (w : World) (L : List (Array Obj)) (n B k : Nat) (S : List Nat) (C : Array Value) (t : TypeId) (fr : Nat × Nat) (hB : B = w.heap.size) (hS : shape L = S) (hk : C.size = k) :
    (loadBlk ⟨sz B S, 0, none⟩ k).run P (wd w (#[.cells C t fr] :: L) n) = .ok C (wd w (#[.cells C t fr] :: L) n) := wd_load w L n B k S C t fr hB hS hk
@[go_sem] theorem wd_loadb1 {P : Program} (w : World) (L : List (Array Obj)) (n B k : Nat) (S : List Nat) (a : Array Obj) (C : Array Value) (t : TypeId) (fr : Nat × Nat) (hB : B = w.heap.size) (hS : shape L = S) (hk : C.size = k) :
    (loadBlk ⟨sz B S, 0, none⟩ k).run P (wd w (a :: #[.cells C t fr] :: L) n) = .ok C (wd w (a :: #[.cells C t fr] :: L) n) := wd_load1 w L n B k S a C t fr hB hS hk
@[go_sem] theorem wd_loadb2 {P : Program} (w : World) (L : List (Array Obj)) (n B k : Nat) (S : List Nat) (a b : Array Obj) (C : Array Value) (t : TypeId) (fr : Nat × Nat) (hB : B = w.heap.size) (hS : shape L = S) (hk : C.size = k) :
    (loadBlk ⟨sz B S, 0, none⟩ k).run P (wd w (a :: b :: #[.cells C t fr] :: L) n) = .ok C (wd w (a :: b :: #[.cells C t fr] :: L) n) := wd_load2 w L n B k S a b C t fr hB hS hk
@[go_sem] theorem wd_loadb3 {P : Program} (w : World) (L : List (Array Obj)) (n B k : Nat) (S : List Nat) (a b c : Array Obj) (C : Array Value) (t : TypeId) (fr : Nat × Nat) (hB : B = w.heap.size) (hS : shape L = S) (hk : C.size = k) :
    (loadBlk ⟨sz B S, 0, none⟩ k).run P (wd w (a :: b :: c :: #[.cells C t fr] :: L) n) = .ok C (wd w (a :: b :: c :: #[.cells C t fr] :: L) n) := wd_load3 w L n B k S a b c C t fr hB hS hk
@[go_sem] theorem wd_loadb4 {P : Program} (w : World) (L : List (Array Obj)) (n B k : Nat) (S : List Nat) (p0 p1 p2 p3 : Array Obj) (C : Array Value) (t : TypeId) (fr : Nat × Nat) (hB : B = w.heap.size) (hS : shape L = S) (hk : C.size = k) :
    (loadBlk ⟨sz B S, 0, none⟩ k).run P (wd w (p0 :: p1 :: p2 :: p3 :: #[.cells C t fr] :: L) n) = .ok C (wd w (p0 :: p1 :: p2 :: p3 :: #[.cells C t fr] :: L) n) := wd_load4 w L n B k S p0 p1 p2 p3 C t fr hB hS hk
@[go_sem] theorem wd_loadb5 {P : Program} (w : World) (L : List (Array Obj)) (n B k : Nat) (S : List Nat) (p0 p1 p2 p3 p4 : Array Obj) (C : Array Value) (t : TypeId) (fr : Nat × Nat) (hB : B = w.heap.size) (hS : shape L = S) (hk : C.size = k) :
    (loadBlk ⟨sz B S, 0, none⟩ k).run P (wd w (p0 :: p1 :: p2 :: p3 :: p4 :: #[.cells C t fr] :: L) n) = .ok C (wd w (p0 :: p1 :: p2 :: p3 :: p4 :: #[.cells C t fr] :: L) n) := wd_load5 w L n B k S p0 p1 p2 p3 p4 C t fr hB hS hk
@[go_sem] theorem wd_loadb6 {P : Program} (w : World) (L : List (Array Obj)) (n B k : Nat) (S : List Nat) (p0 p1 p2 p3 p4 p5 : Array Obj) (C : Array Value) (t : TypeId) (fr : Nat × Nat) (hB : B = w.heap.size) (hS : shape L = S) (hk : C.size = k) :
    (loadBlk ⟨sz B S, 0, none⟩ k).run P (wd w (p0 :: p1 :: p2 :: p3 :: p4 :: p5 :: #[.cells C t fr] :: L) n) = .ok C (wd w (p0 :: p1 :: p2 :: p3 :: p4 :: p5 :: #[.cells C t fr] :: L) n) := wd_load6 w L n B k S p0 p1 p2 p3 p4 p5 C t fr hB hS hk
@[go_sem] theorem wd_loadb7 {P : Program} (w : World) (L : List (Array Obj)) (n B k : Nat) (S : List Nat) (p0 p1 p2 p3 p4 p5 p6 : Array Obj) (C : Array Value) (t : TypeId) (fr : Nat × Nat) (hB : B = w.heap.size) (hS : shape L = S) (hk : C.size = k) :
    (loadBlk ⟨sz B S, 0, none⟩ k).run P (wd w (p0 :: p1 :: p2 :: p3 :: p4 :: p5 :: p6 :: #[.cells C t fr] :: L) n) = .ok C (wd w (p0 :: p1 :: p2 :: p3 :: p4 :: p5 :: p6 :: #[.cells C t fr] :: L) n) := wd_load7 w L n B k S p0 p1 p2 p3 p4 p5 p6 C t fr hB hS hk
@[go_sem] theorem wd_loadb8 {P : Program} (w : World) (L : List (Array Obj)) (n B k : Nat) (S : List Nat) (p0 p1 p2 p3 p4 p5 p6 p7 : Array Obj) (C : Array Value) (t : TypeId) (fr : Nat × Nat) (hB : B = w.heap.size) (hS : shape L = S) (hk : C.size = k) :
    (loadBlk ⟨sz B S, 0, none⟩ k).run P (wd w (p0 :: p1 :: p2 :: p3 :: p4 :: p5 :: p6 :: p7 :: #[.cells C t fr] :: L) n) = .ok C (wd w (p0 :: p1 :: p2 :: p3 :: p4 :: p5 :: p6 :: p7 :: #[.cells C t fr] :: L) n) := wd_load8 w L n B k S p0 p1 p2 p3 p4 p5 p6 p7 C t fr hB hS hk
@[go_sem] theorem wd_loadb9 {P : Program} (w : World) (L : List (Array Obj)) (n B k : Nat) (S : List Nat) (p0 p1 p2 p3 p4 p5 p6 p7 p8 : Array Obj) (C : Array Value) (t : TypeId) (fr : Nat × Nat) (hB : B = w.heap.size) (hS : shape L = S) (hk : C.size = k) :
    (loadBlk ⟨sz B S, 0, none⟩ k).run P (wd w (p0 :: p1 :: p2 :: p3 :: p4 :: p5 :: p6 :: p7 :: p8 :: #[.cells C t fr] :: L) n) = .ok C (wd w (p0 :: p1 :: p2 :: p3 :: p4 :: p5 :: p6 :: p7 :: p8 :: #[.cells C t fr] :: L) n) := wd_load9 w L n B k S p0 p1 p2 p3 p4 p5 p6 p7 p8 C t fr hB hS hk
end Go.Proofs.Ytejokhgabcldhaa
/- wire: a request's cells kept as one. -/
namespace Go.Proofs.Ytejokhgabcldhaa
open Go.ChangeShapes Go.WideShapes Go.ChangeAt Go.RowKit
set_option linter.unusedVariables false
set_option linter.unusedSimpArgs false

/-- A request's cells, kept as one. -/
def rq (q : Req) (a : Option Addr) (cap : Nat) : Array Value := (reqCells q a cap).toArray
@[go_sem] theorem rq_size (q : Req) (a : Option Addr) (cap : Nat) : (rq q a cap).size = 18 := by unfold rq reqCells; rfl
@[go_sem] theorem rq_0 (q : Req) (a : Option Addr) (cap : Nat) : (rq q a cap)[0]? = some (.int .u8 (q.kind : Nat)) := by unfold rq reqCells; rfl
@[go_sem] theorem rq_at0 (q : Req) (a : Option Addr) (cap : Nat) (h : 0 < (rq q a cap).size) : (rq q a cap)[0] = .int .u8 (q.kind : Nat) := by have := rq_0 q a cap; rw [Array.getElem?_eq_getElem h] at this; exact Option.some.inj this
@[go_sem] theorem rq_1 (q : Req) (a : Option Addr) (cap : Nat) : (rq q a cap)[1]? = some (.string (str q.topic)) := by unfold rq reqCells; rfl
@[go_sem] theorem rq_at1 (q : Req) (a : Option Addr) (cap : Nat) (h : 1 < (rq q a cap).size) : (rq q a cap)[1] = .string (str q.topic) := by have := rq_1 q a cap; rw [Array.getElem?_eq_getElem h] at this; exact Option.some.inj this
@[go_sem] theorem rq_2 (q : Req) (a : Option Addr) (cap : Nat) : (rq q a cap)[2]? = some (.int .i64 q.index) := by unfold rq reqCells; rfl
@[go_sem] theorem rq_at2 (q : Req) (a : Option Addr) (cap : Nat) (h : 2 < (rq q a cap).size) : (rq q a cap)[2] = .int .i64 q.index := by have := rq_2 q a cap; rw [Array.getElem?_eq_getElem h] at this; exact Option.some.inj this
@[go_sem] theorem rq_3 (q : Req) (a : Option Addr) (cap : Nat) : (rq q a cap)[3]? = some (.int .i64 q.parts) := by unfold rq reqCells; rfl
@[go_sem] theorem rq_at3 (q : Req) (a : Option Addr) (cap : Nat) (h : 3 < (rq q a cap).size) : (rq q a cap)[3] = .int .i64 q.parts := by have := rq_3 q a cap; rw [Array.getElem?_eq_getElem h] at this; exact Option.some.inj this
@[go_sem] theorem rq_4 (q : Req) (a : Option Addr) (cap : Nat) : (rq q a cap)[4]? = some (.bool q.compact) := by unfold rq reqCells; rfl
@[go_sem] theorem rq_at4 (q : Req) (a : Option Addr) (cap : Nat) (h : 4 < (rq q a cap).size) : (rq q a cap)[4] = .bool q.compact := by have := rq_4 q a cap; rw [Array.getElem?_eq_getElem h] at this; exact Option.some.inj this
@[go_sem] theorem rq_5 (q : Req) (a : Option Addr) (cap : Nat) : (rq q a cap)[5]? = some (.bool q.flush) := by unfold rq reqCells; rfl
@[go_sem] theorem rq_at5 (q : Req) (a : Option Addr) (cap : Nat) (h : 5 < (rq q a cap).size) : (rq q a cap)[5] = .bool q.flush := by have := rq_5 q a cap; rw [Array.getElem?_eq_getElem h] at this; exact Option.some.inj this
@[go_sem] theorem rq_6 (q : Req) (a : Option Addr) (cap : Nat) : (rq q a cap)[6]? = some (.int .i64 q.offset) := by unfold rq reqCells; rfl
@[go_sem] theorem rq_at6 (q : Req) (a : Option Addr) (cap : Nat) (h : 6 < (rq q a cap).size) : (rq q a cap)[6] = .int .i64 q.offset := by have := rq_6 q a cap; rw [Array.getElem?_eq_getElem h] at this; exact Option.some.inj this
@[go_sem] theorem rq_7 (q : Req) (a : Option Addr) (cap : Nat) : (rq q a cap)[7]? = some (.int .i64 q.most) := by unfold rq reqCells; rfl
@[go_sem] theorem rq_at7 (q : Req) (a : Option Addr) (cap : Nat) (h : 7 < (rq q a cap).size) : (rq q a cap)[7] = .int .i64 q.most := by have := rq_7 q a cap; rw [Array.getElem?_eq_getElem h] at this; exact Option.some.inj this
@[go_sem] theorem rq_8 (q : Req) (a : Option Addr) (cap : Nat) : (rq q a cap)[8]? = some (.int .i64 q.time) := by unfold rq reqCells; rfl
@[go_sem] theorem rq_at8 (q : Req) (a : Option Addr) (cap : Nat) (h : 8 < (rq q a cap).size) : (rq q a cap)[8] = .int .i64 q.time := by have := rq_8 q a cap; rw [Array.getElem?_eq_getElem h] at this; exact Option.some.inj this
@[go_sem] theorem rq_9 (q : Req) (a : Option Addr) (cap : Nat) : (rq q a cap)[9]? = some (.string (str q.group)) := by unfold rq reqCells; rfl
@[go_sem] theorem rq_at9 (q : Req) (a : Option Addr) (cap : Nat) (h : 9 < (rq q a cap).size) : (rq q a cap)[9] = .string (str q.group) := by have := rq_9 q a cap; rw [Array.getElem?_eq_getElem h] at this; exact Option.some.inj this
@[go_sem] theorem rq_10 (q : Req) (a : Option Addr) (cap : Nat) : (rq q a cap)[10]? = some (.string (str q.member)) := by unfold rq reqCells; rfl
@[go_sem] theorem rq_at10 (q : Req) (a : Option Addr) (cap : Nat) (h : 10 < (rq q a cap).size) : (rq q a cap)[10] = .string (str q.member) := by have := rq_10 q a cap; rw [Array.getElem?_eq_getElem h] at this; exact Option.some.inj this
@[go_sem] theorem rq_11 (q : Req) (a : Option Addr) (cap : Nat) : (rq q a cap)[11]? = some (.int .i64 q.gen) := by unfold rq reqCells; rfl
@[go_sem] theorem rq_at11 (q : Req) (a : Option Addr) (cap : Nat) (h : 11 < (rq q a cap).size) : (rq q a cap)[11] = .int .i64 q.gen := by have := rq_11 q a cap; rw [Array.getElem?_eq_getElem h] at this; exact Option.some.inj this
@[go_sem] theorem rq_12 (q : Req) (a : Option Addr) (cap : Nat) : (rq q a cap)[12]? = some (.int .i64 q.batch.base) := by unfold rq reqCells; rfl
@[go_sem] theorem rq_at12 (q : Req) (a : Option Addr) (cap : Nat) (h : 12 < (rq q a cap).size) : (rq q a cap)[12] = .int .i64 q.batch.base := by have := rq_12 q a cap; rw [Array.getElem?_eq_getElem h] at this; exact Option.some.inj this
@[go_sem] theorem rq_13 (q : Req) (a : Option Addr) (cap : Nat) : (rq q a cap)[13]? = some (.int .i64 q.batch.count) := by unfold rq reqCells; rfl
@[go_sem] theorem rq_at13 (q : Req) (a : Option Addr) (cap : Nat) (h : 13 < (rq q a cap).size) : (rq q a cap)[13] = .int .i64 q.batch.count := by have := rq_13 q a cap; rw [Array.getElem?_eq_getElem h] at this; exact Option.some.inj this
@[go_sem] theorem rq_14 (q : Req) (a : Option Addr) (cap : Nat) : (rq q a cap)[14]? = some (.int .i64 q.batch.producer) := by unfold rq reqCells; rfl
@[go_sem] theorem rq_at14 (q : Req) (a : Option Addr) (cap : Nat) (h : 14 < (rq q a cap).size) : (rq q a cap)[14] = .int .i64 q.batch.producer := by have := rq_14 q a cap; rw [Array.getElem?_eq_getElem h] at this; exact Option.some.inj this
@[go_sem] theorem rq_15 (q : Req) (a : Option Addr) (cap : Nat) : (rq q a cap)[15]? = some (.int .i64 q.batch.epoch) := by unfold rq reqCells; rfl
@[go_sem] theorem rq_at15 (q : Req) (a : Option Addr) (cap : Nat) (h : 15 < (rq q a cap).size) : (rq q a cap)[15] = .int .i64 q.batch.epoch := by have := rq_15 q a cap; rw [Array.getElem?_eq_getElem h] at this; exact Option.some.inj this
@[go_sem] theorem rq_16 (q : Req) (a : Option Addr) (cap : Nat) : (rq q a cap)[16]? = some (.int .i64 q.batch.seq) := by unfold rq reqCells; rfl
@[go_sem] theorem rq_at16 (q : Req) (a : Option Addr) (cap : Nat) (h : 16 < (rq q a cap).size) : (rq q a cap)[16] = .int .i64 q.batch.seq := by have := rq_16 q a cap; rw [Array.getElem?_eq_getElem h] at this; exact Option.some.inj this
@[go_sem] theorem rq_17 (q : Req) (a : Option Addr) (cap : Nat) : (rq q a cap)[17]? = some (.slice a q.batch.recs.length cap) := by unfold rq reqCells; rfl
@[go_sem] theorem rq_at17 (q : Req) (a : Option Addr) (cap : Nat) (h : 17 < (rq q a cap).size) : (rq q a cap)[17] = .slice a q.batch.recs.length cap := by have := rq_17 q a cap; rw [Array.getElem?_eq_getElem h] at this; exact Option.some.inj this
/-- All are of one cell. -/
def ones (ls : List Value) : Prop := ∀ v ∈ ls, v.oneCell' = true
@[go_sem] theorem rq_one (q : Req) (a : Option Addr) (cap : Nat) : ones (rq q a cap).toList := by intro v hv; simp [rq, reqCells] at hv; rcases hv with h | h | h | h | h | h | h | h | h | h | h | h | h | h | h | h | h | h <;> subst h <;> rfl
@[go_sem] theorem rq_len (q : Req) (a : Option Addr) (cap : Nat) : (rq q a cap).toList.length = 18 := by unfold rq reqCells; rfl
@[go_sem] theorem rq_set0 (q : Req) (a : Option Addr) (cap : Nat) (x : Nat) : (rq q a cap).setIfInBounds 0 (.int .u8 (x : Nat)) = rq { q with kind := x } a cap := by unfold rq reqCells; rfl
@[go_sem] theorem rq_set1 (q : Req) (a : Option Addr) (cap : Nat) (x : List UInt8) : (rq q a cap).setIfInBounds 1 (.string (str x)) = rq { q with topic := x } a cap := by unfold rq reqCells; rfl
@[go_sem] theorem rq_set2 (q : Req) (a : Option Addr) (cap : Nat) (x : Int) : (rq q a cap).setIfInBounds 2 (.int .i64 x) = rq { q with index := x } a cap := by unfold rq reqCells; rfl
@[go_sem] theorem rq_set3 (q : Req) (a : Option Addr) (cap : Nat) (x : Int) : (rq q a cap).setIfInBounds 3 (.int .i64 x) = rq { q with parts := x } a cap := by unfold rq reqCells; rfl
@[go_sem] theorem rq_set4 (q : Req) (a : Option Addr) (cap : Nat) (x : Bool) : (rq q a cap).setIfInBounds 4 (.bool x) = rq { q with compact := x } a cap := by unfold rq reqCells; rfl
@[go_sem] theorem rq_set5 (q : Req) (a : Option Addr) (cap : Nat) (x : Bool) : (rq q a cap).setIfInBounds 5 (.bool x) = rq { q with flush := x } a cap := by unfold rq reqCells; rfl
@[go_sem] theorem rq_set6 (q : Req) (a : Option Addr) (cap : Nat) (x : Int) : (rq q a cap).setIfInBounds 6 (.int .i64 x) = rq { q with offset := x } a cap := by unfold rq reqCells; rfl
@[go_sem] theorem rq_set7 (q : Req) (a : Option Addr) (cap : Nat) (x : Int) : (rq q a cap).setIfInBounds 7 (.int .i64 x) = rq { q with most := x } a cap := by unfold rq reqCells; rfl
@[go_sem] theorem rq_set8 (q : Req) (a : Option Addr) (cap : Nat) (x : Int) : (rq q a cap).setIfInBounds 8 (.int .i64 x) = rq { q with time := x } a cap := by unfold rq reqCells; rfl
@[go_sem] theorem rq_set9 (q : Req) (a : Option Addr) (cap : Nat) (x : List UInt8) : (rq q a cap).setIfInBounds 9 (.string (str x)) = rq { q with group := x } a cap := by unfold rq reqCells; rfl
@[go_sem] theorem rq_set10 (q : Req) (a : Option Addr) (cap : Nat) (x : List UInt8) : (rq q a cap).setIfInBounds 10 (.string (str x)) = rq { q with member := x } a cap := by unfold rq reqCells; rfl
@[go_sem] theorem rq_set11 (q : Req) (a : Option Addr) (cap : Nat) (x : Int) : (rq q a cap).setIfInBounds 11 (.int .i64 x) = rq { q with gen := x } a cap := by unfold rq reqCells; rfl
@[go_sem] theorem rq_set12 (q : Req) (a : Option Addr) (cap : Nat) (x : Int) : (rq q a cap).setIfInBounds 12 (.int .i64 x) = rq { q with batch := { q.batch with base := x } } a cap := by unfold rq reqCells; rfl
@[go_sem] theorem rq_set13 (q : Req) (a : Option Addr) (cap : Nat) (x : Int) : (rq q a cap).setIfInBounds 13 (.int .i64 x) = rq { q with batch := { q.batch with count := x } } a cap := by unfold rq reqCells; rfl
@[go_sem] theorem rq_set14 (q : Req) (a : Option Addr) (cap : Nat) (x : Int) : (rq q a cap).setIfInBounds 14 (.int .i64 x) = rq { q with batch := { q.batch with producer := x } } a cap := by unfold rq reqCells; rfl
@[go_sem] theorem rq_set15 (q : Req) (a : Option Addr) (cap : Nat) (x : Int) : (rq q a cap).setIfInBounds 15 (.int .i64 x) = rq { q with batch := { q.batch with epoch := x } } a cap := by unfold rq reqCells; rfl
@[go_sem] theorem rq_set16 (q : Req) (a : Option Addr) (cap : Nat) (x : Int) : (rq q a cap).setIfInBounds 16 (.int .i64 x) = rq { q with batch := { q.batch with seq := x } } a cap := by unfold rq reqCells; rfl
@[go_sem] theorem blank_kind (k : Nat) : (reqBlank k).kind = k := rfl
@[go_sem] theorem rq_kind (k k' : Nat) : ({ reqBlank k with kind := k' } : Req) = reqBlank k' := rfl
@[go_sem] theorem rq_zero : (#[.int .u8 0, .string ⟨#[]⟩, .int .i64 0, .int .i64 0, .bool false, .bool false, .int .i64 0, .int .i64 0, .int .i64 0, .string ⟨#[]⟩, .string ⟨#[]⟩, .int .i64 0, .int .i64 0, .int .i64 0, .int .i64 0, .int .i64 0, .int .i64 0, .slice none 0 0] : Array Value) = rq (reqBlank 0) none 0 := by unfold rq reqCells; rfl
/-! ### a whole block stored at once -/
theorem setRow_bset {W : World} {b : Nat} {C D : Array Value} {t : TypeId} {fr : Nat × Nat} (h : W.heap[b]? = some (.cells C t fr)) : W.setRow b D = bset W b (.cells D t fr) := by
  refine world_ext ?_ rfl rfl rfl rfl
  simp only [World.setRow, bset]
  rw [bset_eq_modify]
  apply Array.ext_getElem?
  intro j
  rw [Array.getElem?_modify, Array.getElem?_modify]
  by_cases hj : b = j
  · subst hj; simp [h]
  · simp [hj]
theorem store_block {P : Program} (W : World) (b : Nat) (ls : List Value) (C : Array Value) (t : TypeId) (h : W.heap[b]? = some (.cells C t)) (hs : ls.length = C.size) (h1 : ones ls) :
    (storeCells ⟨b, 0, none⟩ ls 0).run P W = .ok () (bset W b (.cells ls.toArray t)) := by
  rw [run_storeCells_from b t ls 0 C W h (by omega) h1, List.take_zero, List.nil_append, setRow_bset h]
@[go_sem ↓] theorem wd_store {P : Program} (w : World) (L : List (Array Obj)) (n B : Nat) (S : List Nat) (C : Array Value) (ls : List Value) (t : TypeId) (hB : B = w.heap.size) (hS : shape L = S) (hs : ls.length = C.size) (h1 : ones ls) :
    (storeCells ⟨sz B S, 0, none⟩ ls 0).run P (wd w (#[.cells C t] :: L) n) = .ok () (wd w (#[.cells ls.toArray t] :: L) n) := by
  rw [store_block _ _ ls C t (wd_at w L n B S _ hB hS) hs h1, bset_wd _ _ _ _ _ _ _ hB hS]
@[go_sem ↓] theorem wd_store1 {P : Program} (w : World) (L : List (Array Obj)) (n B : Nat) (S : List Nat) (p0 : Array Obj) (C : Array Value) (ls : List Value) (t : TypeId) (hB : B = w.heap.size) (hS : shape L = S) (hs : ls.length = C.size) (h1 : ones ls) :
    (storeCells ⟨sz B S, 0, none⟩ ls 0).run P (wd w (p0 :: #[.cells C t] :: L) n) = .ok () (wd w (p0 :: #[.cells ls.toArray t] :: L) n) := by
  rw [store_block _ _ ls C t (deep_push (wd_at w L n B S _ hB hS)) hs h1]
  congr 1
  subst hS
  rw [bset_wd_past _ _ _ _ _ _ _ hB (by simp [shape, inn]), bset_wd _ _ _ _ _ _ _ hB rfl]
  rfl
@[go_sem ↓] theorem wd_store2 {P : Program} (w : World) (L : List (Array Obj)) (n B : Nat) (S : List Nat) (p0 p1 : Array Obj) (C : Array Value) (ls : List Value) (t : TypeId) (hB : B = w.heap.size) (hS : shape L = S) (hs : ls.length = C.size) (h1 : ones ls) :
    (storeCells ⟨sz B S, 0, none⟩ ls 0).run P (wd w (p0 :: p1 :: #[.cells C t] :: L) n) = .ok () (wd w (p0 :: p1 :: #[.cells ls.toArray t] :: L) n) := by
  rw [store_block _ _ ls C t (deep_push (deep_push (wd_at w L n B S _ hB hS))) hs h1]
  congr 1
  subst hS
  rw [bset_wd_past _ _ _ _ _ _ _ hB (by simp [shape, inn]), bset_wd_past _ _ _ _ _ _ _ hB (by simp [shape, inn]), bset_wd _ _ _ _ _ _ _ hB rfl]
  rfl
@[go_sem ↓] theorem wd_store3 {P : Program} (w : World) (L : List (Array Obj)) (n B : Nat) (S : List Nat) (p0 p1 p2 : Array Obj) (C : Array Value) (ls : List Value) (t : TypeId) (hB : B = w.heap.size) (hS : shape L = S) (hs : ls.length = C.size) (h1 : ones ls) :
    (storeCells ⟨sz B S, 0, none⟩ ls 0).run P (wd w (p0 :: p1 :: p2 :: #[.cells C t] :: L) n) = .ok () (wd w (p0 :: p1 :: p2 :: #[.cells ls.toArray t] :: L) n) := by
  rw [store_block _ _ ls C t (deep_push (deep_push (deep_push (wd_at w L n B S _ hB hS)))) hs h1]
  congr 1
  subst hS
  rw [bset_wd_past _ _ _ _ _ _ _ hB (by simp [shape, inn]), bset_wd_past _ _ _ _ _ _ _ hB (by simp [shape, inn]), bset_wd_past _ _ _ _ _ _ _ hB (by simp [shape, inn]), bset_wd _ _ _ _ _ _ _ hB rfl]
  rfl
@[go_sem ↓] theorem wd_store4 {P : Program} (w : World) (L : List (Array Obj)) (n B : Nat) (S : List Nat) (p0 p1 p2 p3 : Array Obj) (C : Array Value) (ls : List Value) (t : TypeId) (hB : B = w.heap.size) (hS : shape L = S) (hs : ls.length = C.size) (h1 : ones ls) :
    (storeCells ⟨sz B S, 0, none⟩ ls 0).run P (wd w (p0 :: p1 :: p2 :: p3 :: #[.cells C t] :: L) n) = .ok () (wd w (p0 :: p1 :: p2 :: p3 :: #[.cells ls.toArray t] :: L) n) := by
  rw [store_block _ _ ls C t (deep_push (deep_push (deep_push (deep_push (wd_at w L n B S _ hB hS))))) hs h1]
  congr 1
  subst hS
  rw [bset_wd_past _ _ _ _ _ _ _ hB (by simp [shape, inn]), bset_wd_past _ _ _ _ _ _ _ hB (by simp [shape, inn]), bset_wd_past _ _ _ _ _ _ _ hB (by simp [shape, inn]), bset_wd_past _ _ _ _ _ _ _ hB (by simp [shape, inn]), bset_wd _ _ _ _ _ _ _ hB rfl]
  rfl
@[go_sem ↓] theorem wd_store5 {P : Program} (w : World) (L : List (Array Obj)) (n B : Nat) (S : List Nat) (p0 p1 p2 p3 p4 : Array Obj) (C : Array Value) (ls : List Value) (t : TypeId) (hB : B = w.heap.size) (hS : shape L = S) (hs : ls.length = C.size) (h1 : ones ls) :
    (storeCells ⟨sz B S, 0, none⟩ ls 0).run P (wd w (p0 :: p1 :: p2 :: p3 :: p4 :: #[.cells C t] :: L) n) = .ok () (wd w (p0 :: p1 :: p2 :: p3 :: p4 :: #[.cells ls.toArray t] :: L) n) := by
  rw [store_block _ _ ls C t (deep_push (deep_push (deep_push (deep_push (deep_push (wd_at w L n B S _ hB hS)))))) hs h1]
  congr 1
  subst hS
  rw [bset_wd_past _ _ _ _ _ _ _ hB (by simp [shape, inn]), bset_wd_past _ _ _ _ _ _ _ hB (by simp [shape, inn]), bset_wd_past _ _ _ _ _ _ _ hB (by simp [shape, inn]), bset_wd_past _ _ _ _ _ _ _ hB (by simp [shape, inn]), bset_wd_past _ _ _ _ _ _ _ hB (by simp [shape, inn]), bset_wd _ _ _ _ _ _ _ hB rfl]
  rfl
@[go_sem ↓] theorem wd_store6 {P : Program} (w : World) (L : List (Array Obj)) (n B : Nat) (S : List Nat) (p0 p1 p2 p3 p4 p5 : Array Obj) (C : Array Value) (ls : List Value) (t : TypeId) (hB : B = w.heap.size) (hS : shape L = S) (hs : ls.length = C.size) (h1 : ones ls) :
    (storeCells ⟨sz B S, 0, none⟩ ls 0).run P (wd w (p0 :: p1 :: p2 :: p3 :: p4 :: p5 :: #[.cells C t] :: L) n) = .ok () (wd w (p0 :: p1 :: p2 :: p3 :: p4 :: p5 :: #[.cells ls.toArray t] :: L) n) := by
  rw [store_block _ _ ls C t (deep_push (deep_push (deep_push (deep_push (deep_push (deep_push (wd_at w L n B S _ hB hS))))))) hs h1]
  congr 1
  subst hS
  rw [bset_wd_past _ _ _ _ _ _ _ hB (by simp [shape, inn]), bset_wd_past _ _ _ _ _ _ _ hB (by simp [shape, inn]), bset_wd_past _ _ _ _ _ _ _ hB (by simp [shape, inn]), bset_wd_past _ _ _ _ _ _ _ hB (by simp [shape, inn]), bset_wd_past _ _ _ _ _ _ _ hB (by simp [shape, inn]), bset_wd_past _ _ _ _ _ _ _ hB (by simp [shape, inn]), bset_wd _ _ _ _ _ _ _ hB rfl]
  rfl
@[go_sem ↓] theorem wd_store7 {P : Program} (w : World) (L : List (Array Obj)) (n B : Nat) (S : List Nat) (p0 p1 p2 p3 p4 p5 p6 : Array Obj) (C : Array Value) (ls : List Value) (t : TypeId) (hB : B = w.heap.size) (hS : shape L = S) (hs : ls.length = C.size) (h1 : ones ls) :
    (storeCells ⟨sz B S, 0, none⟩ ls 0).run P (wd w (p0 :: p1 :: p2 :: p3 :: p4 :: p5 :: p6 :: #[.cells C t] :: L) n) = .ok () (wd w (p0 :: p1 :: p2 :: p3 :: p4 :: p5 :: p6 :: #[.cells ls.toArray t] :: L) n) := by
  rw [store_block _ _ ls C t (deep_push (deep_push (deep_push (deep_push (deep_push (deep_push (deep_push (wd_at w L n B S _ hB hS)))))))) hs h1]
  congr 1
  subst hS
  rw [bset_wd_past _ _ _ _ _ _ _ hB (by simp [shape, inn]), bset_wd_past _ _ _ _ _ _ _ hB (by simp [shape, inn]), bset_wd_past _ _ _ _ _ _ _ hB (by simp [shape, inn]), bset_wd_past _ _ _ _ _ _ _ hB (by simp [shape, inn]), bset_wd_past _ _ _ _ _ _ _ hB (by simp [shape, inn]), bset_wd_past _ _ _ _ _ _ _ hB (by simp [shape, inn]), bset_wd_past _ _ _ _ _ _ _ hB (by simp [shape, inn]), bset_wd _ _ _ _ _ _ _ hB rfl]
  rfl
@[go_sem ↓] theorem wd_store8 {P : Program} (w : World) (L : List (Array Obj)) (n B : Nat) (S : List Nat) (p0 p1 p2 p3 p4 p5 p6 p7 : Array Obj) (C : Array Value) (ls : List Value) (t : TypeId) (hB : B = w.heap.size) (hS : shape L = S) (hs : ls.length = C.size) (h1 : ones ls) :
    (storeCells ⟨sz B S, 0, none⟩ ls 0).run P (wd w (p0 :: p1 :: p2 :: p3 :: p4 :: p5 :: p6 :: p7 :: #[.cells C t] :: L) n) = .ok () (wd w (p0 :: p1 :: p2 :: p3 :: p4 :: p5 :: p6 :: p7 :: #[.cells ls.toArray t] :: L) n) := by
  rw [store_block _ _ ls C t (deep_push (deep_push (deep_push (deep_push (deep_push (deep_push (deep_push (deep_push (wd_at w L n B S _ hB hS))))))))) hs h1]
  congr 1
  subst hS
  rw [bset_wd_past _ _ _ _ _ _ _ hB (by simp [shape, inn]), bset_wd_past _ _ _ _ _ _ _ hB (by simp [shape, inn]), bset_wd_past _ _ _ _ _ _ _ hB (by simp [shape, inn]), bset_wd_past _ _ _ _ _ _ _ hB (by simp [shape, inn]), bset_wd_past _ _ _ _ _ _ _ hB (by simp [shape, inn]), bset_wd_past _ _ _ _ _ _ _ hB (by simp [shape, inn]), bset_wd_past _ _ _ _ _ _ _ hB (by simp [shape, inn]), bset_wd_past _ _ _ _ _ _ _ hB (by simp [shape, inn]), bset_wd _ _ _ _ _ _ _ hB rfl]
  rfl
@[go_sem ↓] theorem wd_store9 {P : Program} (w : World) (L : List (Array Obj)) (n B : Nat) (S : List Nat) (p0 p1 p2 p3 p4 p5 p6 p7 p8 : Array Obj) (C : Array Value) (ls : List Value) (t : TypeId) (hB : B = w.heap.size) (hS : shape L = S) (hs : ls.length = C.size) (h1 : ones ls) :
    (storeCells ⟨sz B S, 0, none⟩ ls 0).run P (wd w (p0 :: p1 :: p2 :: p3 :: p4 :: p5 :: p6 :: p7 :: p8 :: #[.cells C t] :: L) n) = .ok () (wd w (p0 :: p1 :: p2 :: p3 :: p4 :: p5 :: p6 :: p7 :: p8 :: #[.cells ls.toArray t] :: L) n) := by
  rw [store_block _ _ ls C t (deep_push (deep_push (deep_push (deep_push (deep_push (deep_push (deep_push (deep_push (deep_push (wd_at w L n B S _ hB hS)))))))))) hs h1]
  congr 1
  subst hS
  rw [bset_wd_past _ _ _ _ _ _ _ hB (by simp [shape, inn]), bset_wd_past _ _ _ _ _ _ _ hB (by simp [shape, inn]), bset_wd_past _ _ _ _ _ _ _ hB (by simp [shape, inn]), bset_wd_past _ _ _ _ _ _ _ hB (by simp [shape, inn]), bset_wd_past _ _ _ _ _ _ _ hB (by simp [shape, inn]), bset_wd_past _ _ _ _ _ _ _ hB (by simp [shape, inn]), bset_wd_past _ _ _ _ _ _ _ hB (by simp [shape, inn]), bset_wd_past _ _ _ _ _ _ _ hB (by simp [shape, inn]), bset_wd_past _ _ _ _ _ _ _ hB (by simp [shape, inn]), bset_wd _ _ _ _ _ _ _ hB rfl]
  rfl
end Go.Proofs.Ytejokhgabcldhaa
