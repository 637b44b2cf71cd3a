/- wire, plain: requests as bytes: what is laid is read. -/
import Derived.Test.YtifoekadjnlhcaaGreatDoorME
import Derived.Laws.RangeString
import Derived.Test.YtifoekadjnlhcaaGreatDoorMF
import Derived.Lib.OthersKept
import Derived.Test.YtifoekadjnlhcaaGreatDoorMA
import Derived.Laws.CopyRow
namespace Go.Proofs.YtifoekadjnlhcaaGreatDoor
open Go.RowKit
set_option linter.unusedVariables false
set_option linter.unusedSimpArgs false
structure Req where
  kind : Nat
  topic : List UInt8
  index : Int
  parts : Int
  compact : Bool
  flush : Bool
  offset : Int
  most : Int
  time : Int
  group : List UInt8
  member : List UInt8
  gen : Int
  batch : Bat
def reqBlank (k : Nat) : Req := ⟨k, [], 0, 0, false, false, 0, 0, 0, [], [], 0, Bat.zero⟩
instance : Inhabited Req := ⟨reqBlank 0⟩
def reqCells (q : Req) (a : Option Addr) (cap : Nat) : List Value := [.int .u8 q.kind, .string (str q.topic), .int .i64 q.index, .int .i64 q.parts, .bool q.compact, .bool q.flush, .int .i64 q.offset, .int .i64 q.most, .int .i64 q.time, .string (str q.group), .string (str q.member), .int .i64 q.gen,
  .int .i64 q.batch.base, .int .i64 q.batch.count, .int .i64 q.batch.producer, .int .i64 q.batch.epoch, .int .i64 q.batch.seq, .slice a q.batch.recs.length cap]
theorem req_eq (x y : Req) : x = y ↔ x.kind = y.kind ∧ x.topic = y.topic ∧ x.index = y.index ∧ x.parts = y.parts ∧ x.compact = y.compact ∧ x.flush = y.flush ∧ x.offset = y.offset ∧ x.most = y.most ∧ x.time = y.time ∧ x.group = y.group ∧ x.member = y.member ∧ x.gen = y.gen ∧ x.batch = y.batch := by
  cases x; cases y; simp
instance (x y : Req) : Decidable (x = y) := decidable_of_iff _ (req_eq x y).symm
instance : DecidableEq Req := fun x y => inferInstance
def usesL (k : Nat) : List UInt8 :=
  if k = 0 then [116, 112, 99] else if k = 1 then [116] else if k = 2 then [116] else if k = 3 then [116, 105, 102, 98] else if k = 4 then [116, 105, 111, 109] else if k = 5 then [116, 105, 119]
  else if k = 6 then [103, 107] else if k = 7 then [116, 103, 107, 110] else if k = 8 then [103, 107, 110] else if k = 9 then [103, 107] else if k = 10 then [116, 105, 111, 103, 107, 110] else if k = 11 then [116, 105, 103] else []
def usesAll : List (List UInt8) := [[116, 112, 99], [116], [116, 105, 102, 98], [116, 105, 111, 109], [116, 105, 119], [103, 107], [116, 103, 107, 110], [103, 107, 110], [116, 105, 111, 103, 107, 110], [116, 105, 103], []]
def reqZero (q : Req) (c : UInt8) : Req :=
  if c = 116 then { q with topic := [] } else if c = 105 then { q with index := 0 } else if c = 112 then { q with parts := 0 } else if c = 99 then { q with compact := false } else if c = 102 then { q with flush := false }
  else if c = 111 then { q with offset := 0 } else if c = 109 then { q with most := 0 } else if c = 119 then { q with time := 0 } else if c = 103 then { q with group := [] } else if c = 107 then { q with member := [] }
  else if c = 110 then { q with gen := 0 } else if c = 98 then { q with batch := Bat.zero } else q
def reqClean (q : Req) : Req := (usesL q.kind).foldl reqZero q
def flagB (b : Bool) : List UInt8 := if b then [1] else [0]
def reqField (q : Req) (body : List UInt8) (c : UInt8) : List UInt8 :=
  if c = 116 then textL q.topic else if c = 105 then put q.index else if c = 112 then put q.parts else if c = 99 then flagB q.compact else if c = 102 then flagB q.flush
  else if c = 111 then put q.offset else if c = 109 then put q.most else if c = 119 then put q.time else if c = 103 then textL q.group else if c = 107 then textL q.member
  else if c = 110 then put q.gen else textL body
def reqBat (q : Req) : List UInt8 × Int := batPut { q.batch with base := 0 }
def reqBytes (q : Req) (body : List UInt8) : List UInt8 := UInt8.ofNat q.kind :: (usesL q.kind).flatMap (reqField q body)
def reqPut (q : Req) : List UInt8 × Int :=
  if 11 < q.kind then ([], 22)
  else if reqClean q ≠ reqBlank q.kind then ([], 4)
  else if 255 < max (max q.topic.length q.group.length) q.member.length then ([], 5)
  else if q.kind = 3 ∧ (reqBat q).2 ≠ 0 then ([], (reqBat q).2)
  else if q.kind = 3 ∧ q.batch.base ≠ 0 then ([], 4)
  else (reqBytes q (if q.kind = 3 then (reqBat q).1 else []), 0)
def Req.wf (q : Req) : Prop := I64 q.index ∧ I64 q.parts ∧ I64 q.offset ∧ I64 q.most ∧ I64 q.time ∧ I64 q.gen
def reqTake (most : Int) (s : List UInt8 × Int × Req) (c : UInt8) : List UInt8 × Int × Req :=
  let l := s.1
  let e := s.2.1
  let q := s.2.2
  if c = 116 then ((txt l e 255).1, (txt l e 255).2.1, { q with topic := (txt l e 255).2.2 })
  else if c = 105 then (numL l e, numE l e, { q with index := numV l e })
  else if c = 112 then (numL l e, numE l e, { q with parts := numV l e })
  else if c = 99 then (fixL l e, fixE l e, { q with compact := decide (fixV l e = 1) })
  else if c = 102 then (fixL l e, fixE l e, { q with flush := decide (fixV l e = 1) })
  else if c = 111 then (numL l e, numE l e, { q with offset := numV l e })
  else if c = 109 then (numL l e, numE l e, { q with most := numV l e })
  else if c = 119 then (numL l e, numE l e, { q with time := numV l e })
  else if c = 103 then ((txt l e 255).1, (txt l e 255).2.1, { q with group := (txt l e 255).2.2 })
  else if c = 107 then ((txt l e 255).1, (txt l e 255).2.1, { q with member := (txt l e 255).2.2 })
  else if c = 110 then (numL l e, numE l e, { q with gen := numV l e })
  else ((txt l e most).1, (txt l e most).2.1, { q with batch := (batGet (txt l e most).2.2).1 })
def reqStart (l : List UInt8) : List UInt8 × Int × Req := (fixL l 0, fixE l 0, reqBlank (fixV l 0).toNat)
def reqDec (most : Int) (l : List UInt8) : Req := ((usesL (fixV l 0).toNat).foldl (reqTake most) (reqStart l)).2.2
def reqCopy (q r : Req) (c : UInt8) : Req :=
  if c = 116 then { r with topic := q.topic } else if c = 105 then { r with index := q.index } else if c = 112 then { r with parts := q.parts } else if c = 99 then { r with compact := q.compact } else if c = 102 then { r with flush := q.flush }
  else if c = 111 then { r with offset := q.offset } else if c = 109 then { r with most := q.most } else if c = 119 then { r with time := q.time } else if c = 103 then { r with group := q.group } else if c = 107 then { r with member := q.member }
  else if c = 110 then { r with gen := q.gen } else { r with batch := q.batch }
def reqGet (l : List UInt8) : Req × Int := if reqPut (reqDec 8192 l) = (l, 0) then (reqDec 8192 l, 0) else (reqBlank 0, 4)
end Go.Proofs.YtifoekadjnlhcaaGreatDoor
namespace Go.Proofs.YtifoekadjnlhcaaGreatDoor
open Go.ChangeShapes Go.WideShapes Go.ChangeAt Go.RowKit
set_option linter.unusedVariables false
set_option linter.unusedSimpArgs false
def bset (w : World) (k : Nat) (o : Obj) : World := { w with heap := w.heap.setIfInBounds k o }
theorem bset_eq_modify (a : Array Obj) (k : Nat) (o : Obj) : a.setIfInBounds k o = a.modify k (fun _ => o) := by
  apply Array.ext_getElem?
  intro j
  rw [Array.getElem?_modify, Array.getElem?_setIfInBounds]
  by_cases h : k = j
  · subst h
    simp only [if_true]
    by_cases hk : k < a.size
    · simp [hk]
    · simp [hk]
  · simp [h]
@[go_sem] theorem bset_size (w : World) (p : Nat) (o : Obj) : (bset w p o).heap.size = w.heap.size := by simp [bset]
@[go_sem] theorem bset_drawn (w : World) (p : Nat) (o : Obj) : (bset w p o).drawn = w.drawn := rfl
@[go_sem] theorem bset_bset (w : World) (p : Nat) (o o' : Obj) : bset (bset w p o) p o' = bset w p o' := by
  refine world_ext ?_ rfl rfl rfl rfl
  simp [bset, Array.setIfInBounds_setIfInBounds]
@[go_sem] theorem bset_wd_old (w : World) (L : List (Array Obj)) (n p : Nat) (o : Obj) (hlt : p < w.heap.size) : bset (wd w L n) p o = wd (bset w p o) L n := by
  refine world_ext ?_ rfl rfl rfl rfl
  show (hp w.heap L).setIfInBounds p o = hp (w.heap.setIfInBounds p o) L
  rw [bset_eq_modify, bset_eq_modify, hp_modify _ _ _ hlt]
@[go_sem] theorem bset_wd (w : World) (L : List (Array Obj)) (n B : Nat) (S : List Nat) (o o' : Obj) (hB : B = w.heap.size) (hS : shape L = S) : bset (wd w (#[o] :: L) n) (sz B S) o' = wd w (#[o'] :: L) n := by
  subst hB hS
  refine world_ext ?_ rfl rfl rfl rfl
  show (hp w.heap L ++ #[o]).setIfInBounds _ o' = hp w.heap L ++ #[o']
  rw [bset_eq_modify, modify_last _ _ _ _ (hp_size _ _).symm]
@[go_sem] theorem bset_wd_past (w : World) (L : List (Array Obj)) (n B : Nat) (S : List Nat) (s : Array Obj) (o : Obj) (hB : B = w.heap.size) (hS : inn S (shape L)) : bset (wd w (s :: L) n) (sz B S) o = onTop s (bset (wd w L n) (sz B S) o) := by
  subst hB
  refine world_ext ?_ rfl rfl rfl rfl
  show (hp w.heap L ++ s).setIfInBounds _ o = (hp w.heap L).setIfInBounds _ o ++ s
  rw [bset_eq_modify, bset_eq_modify, modify_append _ _ _ _ (by rw [hp_size]; exact inn_lt _ hS)]
@[go_sem] theorem bset_plus (w : World) (x : Array Obj) (n p : Nat) (o : Obj) (hp : p < w.heap.size) : bset (plus w x n) p o = plus (bset w p o) x n := by
  refine world_ext ?_ rfl rfl rfl rfl
  show (w.heap ++ x).setIfInBounds p o = w.heap.setIfInBounds p o ++ x
  rw [bset_eq_modify, bset_eq_modify, modify_append _ _ _ _ hp]
@[go_sem] theorem wd_iter (w : World) (L : List (Array Obj)) (n : Nat) (s : ByteArray) (p : Nat) : (wd w L n).iter s p = wd w (#[.stringIter s p] :: L) n := wd_alloc w L n _
def zA (c : UInt8) (a : Option Addr) : Option Addr := if c = 98 then none else a
def zC (c : UInt8) (cap : Nat) : Nat := if c = 98 then 0 else cap
abbrev qob (q : Req) (a : Option Addr) (cap : Nat) : Obj := .cells (reqCells q a cap).toArray 27
def letters : List UInt8 := [116, 105, 112, 99, 102, 111, 109, 119, 103, 107, 110, 98]
end Go.Proofs.YtifoekadjnlhcaaGreatDoor
namespace Go.Proofs.YtifoekadjnlhcaaGreatDoor
open Go.RowKit
set_option linter.unusedVariables false
set_option linter.unusedSimpArgs false
def upTop {α : Type} (W : World) : Result α → Result α
  | .ok a _ => .ok a W
  | .halt x _ => .halt x W
theorem load_block {P : Program} (W : World) (b k : Nat) (C : Array Value) (t : TypeId) (fr : Nat × Nat) (h : W.heap[b]? = some (.cells C t fr)) (hk : C.size = k) :
    (loadCellsFrom ⟨b, 0, none⟩ 0 k #[]).run P W = .ok C W := by
  subst hk
  have h1 := run_loadCells_list (P := P) (w := W) ⟨b, 0, none⟩ C.toList (fun j v hv => by
    rw [addr_add0]
    simp only [World.cell?, h]
    simpa using hv)
  simpa [loadCells] using h1
theorem wd_load {P : Program} (w : World) (L : List (Array Obj)) (n B k : Nat) (S : List Nat) (C : Array Value) (t : TypeId) (fr : Nat × Nat) (hB : B = w.heap.size) (hS : shape L = S) (hk : C.size = k) :
    (loadCellsFrom ⟨sz B S, 0, none⟩ 0 k #[]).run P (wd w (#[.cells C t fr] :: L) n) = .ok C (wd w (#[.cells C t fr] :: L) n) :=
  load_block _ _ _ C t fr (wd_at w L n B S _ hB hS) hk
theorem wd_load1 {P : Program} (w : World) (L : List (Array Obj)) (n B k : Nat) (S : List Nat) (a : Array Obj) (C : Array Value) (t : TypeId) (fr : Nat × Nat) (hB : B = w.heap.size) (hS : shape L = S) (hk : C.size = k) :
    (loadCellsFrom ⟨sz B S, 0, none⟩ 0 k #[]).run P (wd w (a :: #[.cells C t fr] :: L) n) = .ok C (wd w (a :: #[.cells C t fr] :: L) n) :=
  load_block _ _ _ C t fr (by rw [wd_past w _ n B S a hB (by rw [shape_cons, inn_cons]; exact .inl ⟨rfl, hS⟩)]; exact wd_at w L n B S _ hB hS) hk
theorem wd_load2 {P : Program} (w : World) (L : List (Array Obj)) (n B k : Nat) (S : List Nat) (a b : Array Obj) (C : Array Value) (t : TypeId) (fr : Nat × Nat) (hB : B = w.heap.size) (hS : shape L = S) (hk : C.size = k) :
    (loadCellsFrom ⟨sz B S, 0, none⟩ 0 k #[]).run P (wd w (a :: b :: #[.cells C t fr] :: L) n) = .ok C (wd w (a :: b :: #[.cells C t fr] :: L) n) :=
  load_block _ _ _ C t fr (by
    rw [wd_past w _ n B S a hB (by rw [shape_cons, shape_cons, inn_cons, inn_cons]; exact .inr (.inl ⟨rfl, hS⟩)), wd_past w _ n B S b hB (by rw [shape_cons, inn_cons]; exact .inl ⟨rfl, hS⟩)]
    exact wd_at w L n B S _ hB hS) hk
theorem wd_load3 {P : Program} (w : World) (L : List (Array Obj)) (n B k : Nat) (S : List Nat) (a b c : Array Obj) (C : Array Value) (t : TypeId) (fr : Nat × Nat) (hB : B = w.heap.size) (hS : shape L = S) (hk : C.size = k) :
    (loadCellsFrom ⟨sz B S, 0, none⟩ 0 k #[]).run P (wd w (a :: b :: c :: #[.cells C t fr] :: L) n) = .ok C (wd w (a :: b :: c :: #[.cells C t fr] :: L) n) :=
  load_block _ _ _ C t fr (by
    rw [wd_past w _ n B S a hB (by rw [shape_cons, shape_cons, shape_cons, inn_cons, inn_cons, inn_cons]; exact .inr (.inr (.inl ⟨rfl, hS⟩))), wd_past w _ n B S b hB (by rw [shape_cons, shape_cons, inn_cons, inn_cons]; exact .inr (.inl ⟨rfl, hS⟩)), wd_past w _ n B S c hB (by rw [shape_cons, inn_cons]; exact .inl ⟨rfl, hS⟩)]
    exact wd_at w L n B S _ hB hS) hk
theorem deep_push {w : World} {L : List (Array Obj)} {n k : Nat} {o : Obj} {d : Array Obj} (h : (wd w L n).heap[k]? = some o) : (wd w (d :: L) n).heap[k]? = some o := by
  have e1 : wd w (d :: L) n = plus (wd w L n) d n := rfl
  rw [e1, plus_block _ _ _ _ (Array.getElem?_eq_some_iff.1 h).1]
  exact h
theorem wd_load4 {P : Program} (w : World) (L : List (Array Obj)) (n B k : Nat) (S : List Nat) (p0 p1 p2 p3 : Array Obj) (C : Array Value) (t : TypeId) (fr : Nat × Nat) (hB : B = w.heap.size) (hS : shape L = S) (hk : C.size = k) :
    (loadCellsFrom ⟨sz B S, 0, none⟩ 0 k #[]).run P (wd w (p0 :: p1 :: p2 :: p3 :: #[.cells C t fr] :: L) n) = .ok C (wd w (p0 :: p1 :: p2 :: p3 :: #[.cells C t fr] :: L) n) :=
  load_block _ _ _ C t fr (deep_push (deep_push (deep_push (deep_push (wd_at w L n B S _ hB hS))))) hk
theorem wd_load5 {P : Program} (w : World) (L : List (Array Obj)) (n B k : Nat) (S : List Nat) (p0 p1 p2 p3 p4 : Array Obj) (C : Array Value) (t : TypeId) (fr : Nat × Nat) (hB : B = w.heap.size) (hS : shape L = S) (hk : C.size = k) :
    (loadCellsFrom ⟨sz B S, 0, none⟩ 0 k #[]).run P (wd w (p0 :: p1 :: p2 :: p3 :: p4 :: #[.cells C t fr] :: L) n) = .ok C (wd w (p0 :: p1 :: p2 :: p3 :: p4 :: #[.cells C t fr] :: L) n) :=
  load_block _ _ _ C t fr (deep_push (deep_push (deep_push (deep_push (deep_push (wd_at w L n B S _ hB hS)))))) hk
theorem wd_load6 {P : Program} (w : World) (L : List (Array Obj)) (n B k : Nat) (S : List Nat) (p0 p1 p2 p3 p4 p5 : Array Obj) (C : Array Value) (t : TypeId) (fr : Nat × Nat) (hB : B = w.heap.size) (hS : shape L = S) (hk : C.size = k) :
    (loadCellsFrom ⟨sz B S, 0, none⟩ 0 k #[]).run P (wd w (p0 :: p1 :: p2 :: p3 :: p4 :: p5 :: #[.cells C t fr] :: L) n) = .ok C (wd w (p0 :: p1 :: p2 :: p3 :: p4 :: p5 :: #[.cells C t fr] :: L) n) :=
  load_block _ _ _ C t fr (deep_push (deep_push (deep_push (deep_push (deep_push (deep_push (wd_at w L n B S _ hB hS))))))) hk
theorem wd_load7 {P : Program} (w : World) (L : List (Array Obj)) (n B k : Nat) (S : List Nat) (p0 p1 p2 p3 p4 p5 p6 : Array Obj) (C : Array Value) (t : TypeId) (fr : Nat × Nat) (hB : B = w.heap.size) (hS : shape L = S) (hk : C.size = k) :
    (loadCellsFrom ⟨sz B S, 0, none⟩ 0 k #[]).run P (wd w (p0 :: p1 :: p2 :: p3 :: p4 :: p5 :: p6 :: #[.cells C t fr] :: L) n) = .ok C (wd w (p0 :: p1 :: p2 :: p3 :: p4 :: p5 :: p6 :: #[.cells C t fr] :: L) n) :=
  load_block _ _ _ C t fr (deep_push (deep_push (deep_push (deep_push (deep_push (deep_push (deep_push (wd_at w L n B S _ hB hS)))))))) hk
theorem wd_load8 {P : Program} (w : World) (L : List (Array Obj)) (n B k : Nat) (S : List Nat) (p0 p1 p2 p3 p4 p5 p6 p7 : Array Obj) (C : Array Value) (t : TypeId) (fr : Nat × Nat) (hB : B = w.heap.size) (hS : shape L = S) (hk : C.size = k) :
    (loadCellsFrom ⟨sz B S, 0, none⟩ 0 k #[]).run P (wd w (p0 :: p1 :: p2 :: p3 :: p4 :: p5 :: p6 :: p7 :: #[.cells C t fr] :: L) n) = .ok C (wd w (p0 :: p1 :: p2 :: p3 :: p4 :: p5 :: p6 :: p7 :: #[.cells C t fr] :: L) n) :=
  load_block _ _ _ C t fr (deep_push (deep_push (deep_push (deep_push (deep_push (deep_push (deep_push (deep_push (wd_at w L n B S _ hB hS))))))))) hk
theorem wd_load9 {P : Program} (w : World) (L : List (Array Obj)) (n B k : Nat) (S : List Nat) (p0 p1 p2 p3 p4 p5 p6 p7 p8 : Array Obj) (C : Array Value) (t : TypeId) (fr : Nat × Nat) (hB : B = w.heap.size) (hS : shape L = S) (hk : C.size = k) :
    (loadCellsFrom ⟨sz B S, 0, none⟩ 0 k #[]).run P (wd w (p0 :: p1 :: p2 :: p3 :: p4 :: p5 :: p6 :: p7 :: p8 :: #[.cells C t fr] :: L) n) = .ok C (wd w (p0 :: p1 :: p2 :: p3 :: p4 :: p5 :: p6 :: p7 :: p8 :: #[.cells C t fr] :: L) n) :=
  load_block _ _ _ C t fr (deep_push (deep_push (deep_push (deep_push (deep_push (deep_push (deep_push (deep_push (deep_push (wd_at w L n B S _ hB hS)))))))))) hk
def loadBlk (a : Addr) (k : Nat) : Sem (Array Value) := loadCellsFrom a 0 k #[]
@[go_sem ↓] theorem fold_18 (a : Addr) : loadCellsFrom a 0 18 #[] = loadBlk a 18 := rfl
@[go_sem ↓] theorem fold_22 (a : Addr) : loadCellsFrom a 0 22 #[] = loadBlk a 22 := rfl
@[go_sem] theorem wd_loadb {P : Program} (w : World) (L : List (Array Obj)) (n B k : Nat) (S : List Nat) (C : Array Value) (t : TypeId) (fr : Nat × Nat) (hB : B = w.heap.size) (hS : shape L = S) (hk : C.size = k) :
    (loadBlk ⟨sz B S, 0, none⟩ k).run P (wd w (#[.cells C t fr] :: L) n) = .ok C (wd w (#[.cells C t fr] :: L) n) := wd_load w L n B k S C t fr hB hS hk
@[go_sem] theorem wd_loadb1 {P : Program} (w : World) (L : List (Array Obj)) (n B k : Nat) (S : List Nat) (a : Array Obj) (C : Array Value) (t : TypeId) (fr : Nat × Nat) (hB : B = w.heap.size) (hS : shape L = S) (hk : C.size = k) :
    (loadBlk ⟨sz B S, 0, none⟩ k).run P (wd w (a :: #[.cells C t fr] :: L) n) = .ok C (wd w (a :: #[.cells C t fr] :: L) n) := wd_load1 w L n B k S a C t fr hB hS hk
@[go_sem] theorem wd_loadb2 {P : Program} (w : World) (L : List (Array Obj)) (n B k : Nat) (S : List Nat) (a b : Array Obj) (C : Array Value) (t : TypeId) (fr : Nat × Nat) (hB : B = w.heap.size) (hS : shape L = S) (hk : C.size = k) :
    (loadBlk ⟨sz B S, 0, none⟩ k).run P (wd w (a :: b :: #[.cells C t fr] :: L) n) = .ok C (wd w (a :: b :: #[.cells C t fr] :: L) n) := wd_load2 w L n B k S a b C t fr hB hS hk
@[go_sem] theorem wd_loadb3 {P : Program} (w : World) (L : List (Array Obj)) (n B k : Nat) (S : List Nat) (a b c : Array Obj) (C : Array Value) (t : TypeId) (fr : Nat × Nat) (hB : B = w.heap.size) (hS : shape L = S) (hk : C.size = k) :
    (loadBlk ⟨sz B S, 0, none⟩ k).run P (wd w (a :: b :: c :: #[.cells C t fr] :: L) n) = .ok C (wd w (a :: b :: c :: #[.cells C t fr] :: L) n) := wd_load3 w L n B k S a b c C t fr hB hS hk
@[go_sem] theorem wd_loadb4 {P : Program} (w : World) (L : List (Array Obj)) (n B k : Nat) (S : List Nat) (p0 p1 p2 p3 : Array Obj) (C : Array Value) (t : TypeId) (fr : Nat × Nat) (hB : B = w.heap.size) (hS : shape L = S) (hk : C.size = k) :
    (loadBlk ⟨sz B S, 0, none⟩ k).run P (wd w (p0 :: p1 :: p2 :: p3 :: #[.cells C t fr] :: L) n) = .ok C (wd w (p0 :: p1 :: p2 :: p3 :: #[.cells C t fr] :: L) n) := wd_load4 w L n B k S p0 p1 p2 p3 C t fr hB hS hk
@[go_sem] theorem wd_loadb5 {P : Program} (w : World) (L : List (Array Obj)) (n B k : Nat) (S : List Nat) (p0 p1 p2 p3 p4 : Array Obj) (C : Array Value) (t : TypeId) (fr : Nat × Nat) (hB : B = w.heap.size) (hS : shape L = S) (hk : C.size = k) :
    (loadBlk ⟨sz B S, 0, none⟩ k).run P (wd w (p0 :: p1 :: p2 :: p3 :: p4 :: #[.cells C t fr] :: L) n) = .ok C (wd w (p0 :: p1 :: p2 :: p3 :: p4 :: #[.cells C t fr] :: L) n) := wd_load5 w L n B k S p0 p1 p2 p3 p4 C t fr hB hS hk
@[go_sem] theorem wd_loadb6 {P : Program} (w : World) (L : List (Array Obj)) (n B k : Nat) (S : List Nat) (p0 p1 p2 p3 p4 p5 : Array Obj) (C : Array Value) (t : TypeId) (fr : Nat × Nat) (hB : B = w.heap.size) (hS : shape L = S) (hk : C.size = k) :
    (loadBlk ⟨sz B S, 0, none⟩ k).run P (wd w (p0 :: p1 :: p2 :: p3 :: p4 :: p5 :: #[.cells C t fr] :: L) n) = .ok C (wd w (p0 :: p1 :: p2 :: p3 :: p4 :: p5 :: #[.cells C t fr] :: L) n) := wd_load6 w L n B k S p0 p1 p2 p3 p4 p5 C t fr hB hS hk
@[go_sem] theorem wd_loadb7 {P : Program} (w : World) (L : List (Array Obj)) (n B k : Nat) (S : List Nat) (p0 p1 p2 p3 p4 p5 p6 : Array Obj) (C : Array Value) (t : TypeId) (fr : Nat × Nat) (hB : B = w.heap.size) (hS : shape L = S) (hk : C.size = k) :
    (loadBlk ⟨sz B S, 0, none⟩ k).run P (wd w (p0 :: p1 :: p2 :: p3 :: p4 :: p5 :: p6 :: #[.cells C t fr] :: L) n) = .ok C (wd w (p0 :: p1 :: p2 :: p3 :: p4 :: p5 :: p6 :: #[.cells C t fr] :: L) n) := wd_load7 w L n B k S p0 p1 p2 p3 p4 p5 p6 C t fr hB hS hk
@[go_sem] theorem wd_loadb8 {P : Program} (w : World) (L : List (Array Obj)) (n B k : Nat) (S : List Nat) (p0 p1 p2 p3 p4 p5 p6 p7 : Array Obj) (C : Array Value) (t : TypeId) (fr : Nat × Nat) (hB : B = w.heap.size) (hS : shape L = S) (hk : C.size = k) :
    (loadBlk ⟨sz B S, 0, none⟩ k).run P (wd w (p0 :: p1 :: p2 :: p3 :: p4 :: p5 :: p6 :: p7 :: #[.cells C t fr] :: L) n) = .ok C (wd w (p0 :: p1 :: p2 :: p3 :: p4 :: p5 :: p6 :: p7 :: #[.cells C t fr] :: L) n) := wd_load8 w L n B k S p0 p1 p2 p3 p4 p5 p6 p7 C t fr hB hS hk
@[go_sem] theorem wd_loadb9 {P : Program} (w : World) (L : List (Array Obj)) (n B k : Nat) (S : List Nat) (p0 p1 p2 p3 p4 p5 p6 p7 p8 : Array Obj) (C : Array Value) (t : TypeId) (fr : Nat × Nat) (hB : B = w.heap.size) (hS : shape L = S) (hk : C.size = k) :
    (loadBlk ⟨sz B S, 0, none⟩ k).run P (wd w (p0 :: p1 :: p2 :: p3 :: p4 :: p5 :: p6 :: p7 :: p8 :: #[.cells C t fr] :: L) n) = .ok C (wd w (p0 :: p1 :: p2 :: p3 :: p4 :: p5 :: p6 :: p7 :: p8 :: #[.cells C t fr] :: L) n) := wd_load9 w L n B k S p0 p1 p2 p3 p4 p5 p6 p7 p8 C t fr hB hS hk
end Go.Proofs.YtifoekadjnlhcaaGreatDoor
namespace Go.Proofs.YtifoekadjnlhcaaGreatDoor
open Go.ChangeShapes Go.WideShapes Go.ChangeAt Go.RowKit
set_option linter.unusedVariables false
set_option linter.unusedSimpArgs false
def rq (q : Req) (a : Option Addr) (cap : Nat) : Array Value := (reqCells q a cap).toArray
@[go_sem] theorem rq_size (q : Req) (a : Option Addr) (cap : Nat) : (rq q a cap).size = 18 := by unfold rq reqCells; rfl
@[go_sem] theorem rq_0 (q : Req) (a : Option Addr) (cap : Nat) : (rq q a cap)[0]? = some (.int .u8 (q.kind : Nat)) := by unfold rq reqCells; rfl
@[go_sem] theorem rq_at0 (q : Req) (a : Option Addr) (cap : Nat) (h : 0 < (rq q a cap).size) : (rq q a cap)[0] = .int .u8 (q.kind : Nat) := by have := rq_0 q a cap; rw [Array.getElem?_eq_getElem h] at this; exact Option.some.inj this
@[go_sem] theorem rq_1 (q : Req) (a : Option Addr) (cap : Nat) : (rq q a cap)[1]? = some (.string (str q.topic)) := by unfold rq reqCells; rfl
@[go_sem] theorem rq_at1 (q : Req) (a : Option Addr) (cap : Nat) (h : 1 < (rq q a cap).size) : (rq q a cap)[1] = .string (str q.topic) := by have := rq_1 q a cap; rw [Array.getElem?_eq_getElem h] at this; exact Option.some.inj this
@[go_sem] theorem rq_2 (q : Req) (a : Option Addr) (cap : Nat) : (rq q a cap)[2]? = some (.int .i64 q.index) := by unfold rq reqCells; rfl
@[go_sem] theorem rq_at2 (q : Req) (a : Option Addr) (cap : Nat) (h : 2 < (rq q a cap).size) : (rq q a cap)[2] = .int .i64 q.index := by have := rq_2 q a cap; rw [Array.getElem?_eq_getElem h] at this; exact Option.some.inj this
@[go_sem] theorem rq_3 (q : Req) (a : Option Addr) (cap : Nat) : (rq q a cap)[3]? = some (.int .i64 q.parts) := by unfold rq reqCells; rfl
@[go_sem] theorem rq_at3 (q : Req) (a : Option Addr) (cap : Nat) (h : 3 < (rq q a cap).size) : (rq q a cap)[3] = .int .i64 q.parts := by have := rq_3 q a cap; rw [Array.getElem?_eq_getElem h] at this; exact Option.some.inj this
@[go_sem] theorem rq_4 (q : Req) (a : Option Addr) (cap : Nat) : (rq q a cap)[4]? = some (.bool q.compact) := by unfold rq reqCells; rfl
@[go_sem] theorem rq_at4 (q : Req) (a : Option Addr) (cap : Nat) (h : 4 < (rq q a cap).size) : (rq q a cap)[4] = .bool q.compact := by have := rq_4 q a cap; rw [Array.getElem?_eq_getElem h] at this; exact Option.some.inj this
@[go_sem] theorem rq_5 (q : Req) (a : Option Addr) (cap : Nat) : (rq q a cap)[5]? = some (.bool q.flush) := by unfold rq reqCells; rfl
@[go_sem] theorem rq_at5 (q : Req) (a : Option Addr) (cap : Nat) (h : 5 < (rq q a cap).size) : (rq q a cap)[5] = .bool q.flush := by have := rq_5 q a cap; rw [Array.getElem?_eq_getElem h] at this; exact Option.some.inj this
@[go_sem] theorem rq_6 (q : Req) (a : Option Addr) (cap : Nat) : (rq q a cap)[6]? = some (.int .i64 q.offset) := by unfold rq reqCells; rfl
@[go_sem] theorem rq_at6 (q : Req) (a : Option Addr) (cap : Nat) (h : 6 < (rq q a cap).size) : (rq q a cap)[6] = .int .i64 q.offset := by have := rq_6 q a cap; rw [Array.getElem?_eq_getElem h] at this; exact Option.some.inj this
@[go_sem] theorem rq_7 (q : Req) (a : Option Addr) (cap : Nat) : (rq q a cap)[7]? = some (.int .i64 q.most) := by unfold rq reqCells; rfl
@[go_sem] theorem rq_at7 (q : Req) (a : Option Addr) (cap : Nat) (h : 7 < (rq q a cap).size) : (rq q a cap)[7] = .int .i64 q.most := by have := rq_7 q a cap; rw [Array.getElem?_eq_getElem h] at this; exact Option.some.inj this
@[go_sem] theorem rq_8 (q : Req) (a : Option Addr) (cap : Nat) : (rq q a cap)[8]? = some (.int .i64 q.time) := by unfold rq reqCells; rfl
@[go_sem] theorem rq_at8 (q : Req) (a : Option Addr) (cap : Nat) (h : 8 < (rq q a cap).size) : (rq q a cap)[8] = .int .i64 q.time := by have := rq_8 q a cap; rw [Array.getElem?_eq_getElem h] at this; exact Option.some.inj this
@[go_sem] theorem rq_9 (q : Req) (a : Option Addr) (cap : Nat) : (rq q a cap)[9]? = some (.string (str q.group)) := by unfold rq reqCells; rfl
@[go_sem] theorem rq_at9 (q : Req) (a : Option Addr) (cap : Nat) (h : 9 < (rq q a cap).size) : (rq q a cap)[9] = .string (str q.group) := by have := rq_9 q a cap; rw [Array.getElem?_eq_getElem h] at this; exact Option.some.inj this
@[go_sem] theorem rq_10 (q : Req) (a : Option Addr) (cap : Nat) : (rq q a cap)[10]? = some (.string (str q.member)) := by unfold rq reqCells; rfl
@[go_sem] theorem rq_at10 (q : Req) (a : Option Addr) (cap : Nat) (h : 10 < (rq q a cap).size) : (rq q a cap)[10] = .string (str q.member) := by have := rq_10 q a cap; rw [Array.getElem?_eq_getElem h] at this; exact Option.some.inj this
@[go_sem] theorem rq_11 (q : Req) (a : Option Addr) (cap : Nat) : (rq q a cap)[11]? = some (.int .i64 q.gen) := by unfold rq reqCells; rfl
@[go_sem] theorem rq_at11 (q : Req) (a : Option Addr) (cap : Nat) (h : 11 < (rq q a cap).size) : (rq q a cap)[11] = .int .i64 q.gen := by have := rq_11 q a cap; rw [Array.getElem?_eq_getElem h] at this; exact Option.some.inj this
@[go_sem] theorem rq_12 (q : Req) (a : Option Addr) (cap : Nat) : (rq q a cap)[12]? = some (.int .i64 q.batch.base) := by unfold rq reqCells; rfl
@[go_sem] theorem rq_at12 (q : Req) (a : Option Addr) (cap : Nat) (h : 12 < (rq q a cap).size) : (rq q a cap)[12] = .int .i64 q.batch.base := by have := rq_12 q a cap; rw [Array.getElem?_eq_getElem h] at this; exact Option.some.inj this
@[go_sem] theorem rq_13 (q : Req) (a : Option Addr) (cap : Nat) : (rq q a cap)[13]? = some (.int .i64 q.batch.count) := by unfold rq reqCells; rfl
@[go_sem] theorem rq_at13 (q : Req) (a : Option Addr) (cap : Nat) (h : 13 < (rq q a cap).size) : (rq q a cap)[13] = .int .i64 q.batch.count := by have := rq_13 q a cap; rw [Array.getElem?_eq_getElem h] at this; exact Option.some.inj this
@[go_sem] theorem rq_14 (q : Req) (a : Option Addr) (cap : Nat) : (rq q a cap)[14]? = some (.int .i64 q.batch.producer) := by unfold rq reqCells; rfl
@[go_sem] theorem rq_at14 (q : Req) (a : Option Addr) (cap : Nat) (h : 14 < (rq q a cap).size) : (rq q a cap)[14] = .int .i64 q.batch.producer := by have := rq_14 q a cap; rw [Array.getElem?_eq_getElem h] at this; exact Option.some.inj this
@[go_sem] theorem rq_15 (q : Req) (a : Option Addr) (cap : Nat) : (rq q a cap)[15]? = some (.int .i64 q.batch.epoch) := by unfold rq reqCells; rfl
@[go_sem] theorem rq_at15 (q : Req) (a : Option Addr) (cap : Nat) (h : 15 < (rq q a cap).size) : (rq q a cap)[15] = .int .i64 q.batch.epoch := by have := rq_15 q a cap; rw [Array.getElem?_eq_getElem h] at this; exact Option.some.inj this
@[go_sem] theorem rq_16 (q : Req) (a : Option Addr) (cap : Nat) : (rq q a cap)[16]? = some (.int .i64 q.batch.seq) := by unfold rq reqCells; rfl
@[go_sem] theorem rq_at16 (q : Req) (a : Option Addr) (cap : Nat) (h : 16 < (rq q a cap).size) : (rq q a cap)[16] = .int .i64 q.batch.seq := by have := rq_16 q a cap; rw [Array.getElem?_eq_getElem h] at this; exact Option.some.inj this
@[go_sem] theorem rq_17 (q : Req) (a : Option Addr) (cap : Nat) : (rq q a cap)[17]? = some (.slice a q.batch.recs.length cap) := by unfold rq reqCells; rfl
@[go_sem] theorem rq_at17 (q : Req) (a : Option Addr) (cap : Nat) (h : 17 < (rq q a cap).size) : (rq q a cap)[17] = .slice a q.batch.recs.length cap := by have := rq_17 q a cap; rw [Array.getElem?_eq_getElem h] at this; exact Option.some.inj this
def ones (ls : List Value) : Prop := ∀ v ∈ ls, v.oneCell' = true
@[go_sem] theorem rq_one (q : Req) (a : Option Addr) (cap : Nat) : ones (rq q a cap).toList := by intro v hv; simp [rq, reqCells] at hv; rcases hv with h | h | h | h | h | h | h | h | h | h | h | h | h | h | h | h | h | h <;> subst h <;> rfl
@[go_sem] theorem rq_len (q : Req) (a : Option Addr) (cap : Nat) : (rq q a cap).toList.length = 18 := by unfold rq reqCells; rfl
@[go_sem] theorem rq_set0 (q : Req) (a : Option Addr) (cap : Nat) (x : Nat) : (rq q a cap).setIfInBounds 0 (.int .u8 (x : Nat)) = rq { q with kind := x } a cap := by unfold rq reqCells; rfl
@[go_sem] theorem rq_set1 (q : Req) (a : Option Addr) (cap : Nat) (x : List UInt8) : (rq q a cap).setIfInBounds 1 (.string (str x)) = rq { q with topic := x } a cap := by unfold rq reqCells; rfl
@[go_sem] theorem rq_set2 (q : Req) (a : Option Addr) (cap : Nat) (x : Int) : (rq q a cap).setIfInBounds 2 (.int .i64 x) = rq { q with index := x } a cap := by unfold rq reqCells; rfl
@[go_sem] theorem rq_set3 (q : Req) (a : Option Addr) (cap : Nat) (x : Int) : (rq q a cap).setIfInBounds 3 (.int .i64 x) = rq { q with parts := x } a cap := by unfold rq reqCells; rfl
@[go_sem] theorem rq_set4 (q : Req) (a : Option Addr) (cap : Nat) (x : Bool) : (rq q a cap).setIfInBounds 4 (.bool x) = rq { q with compact := x } a cap := by unfold rq reqCells; rfl
@[go_sem] theorem rq_set5 (q : Req) (a : Option Addr) (cap : Nat) (x : Bool) : (rq q a cap).setIfInBounds 5 (.bool x) = rq { q with flush := x } a cap := by unfold rq reqCells; rfl
@[go_sem] theorem rq_set6 (q : Req) (a : Option Addr) (cap : Nat) (x : Int) : (rq q a cap).setIfInBounds 6 (.int .i64 x) = rq { q with offset := x } a cap := by unfold rq reqCells; rfl
@[go_sem] theorem rq_set7 (q : Req) (a : Option Addr) (cap : Nat) (x : Int) : (rq q a cap).setIfInBounds 7 (.int .i64 x) = rq { q with most := x } a cap := by unfold rq reqCells; rfl
@[go_sem] theorem rq_set8 (q : Req) (a : Option Addr) (cap : Nat) (x : Int) : (rq q a cap).setIfInBounds 8 (.int .i64 x) = rq { q with time := x } a cap := by unfold rq reqCells; rfl
@[go_sem] theorem rq_set9 (q : Req) (a : Option Addr) (cap : Nat) (x : List UInt8) : (rq q a cap).setIfInBounds 9 (.string (str x)) = rq { q with group := x } a cap := by unfold rq reqCells; rfl
@[go_sem] theorem rq_set10 (q : Req) (a : Option Addr) (cap : Nat) (x : List UInt8) : (rq q a cap).setIfInBounds 10 (.string (str x)) = rq { q with member := x } a cap := by unfold rq reqCells; rfl
@[go_sem] theorem rq_set11 (q : Req) (a : Option Addr) (cap : Nat) (x : Int) : (rq q a cap).setIfInBounds 11 (.int .i64 x) = rq { q with gen := x } a cap := by unfold rq reqCells; rfl
@[go_sem] theorem rq_set12 (q : Req) (a : Option Addr) (cap : Nat) (x : Int) : (rq q a cap).setIfInBounds 12 (.int .i64 x) = rq { q with batch := { q.batch with base := x } } a cap := by unfold rq reqCells; rfl
@[go_sem] theorem rq_set13 (q : Req) (a : Option Addr) (cap : Nat) (x : Int) : (rq q a cap).setIfInBounds 13 (.int .i64 x) = rq { q with batch := { q.batch with count := x } } a cap := by unfold rq reqCells; rfl
@[go_sem] theorem rq_set14 (q : Req) (a : Option Addr) (cap : Nat) (x : Int) : (rq q a cap).setIfInBounds 14 (.int .i64 x) = rq { q with batch := { q.batch with producer := x } } a cap := by unfold rq reqCells; rfl
@[go_sem] theorem rq_set15 (q : Req) (a : Option Addr) (cap : Nat) (x : Int) : (rq q a cap).setIfInBounds 15 (.int .i64 x) = rq { q with batch := { q.batch with epoch := x } } a cap := by unfold rq reqCells; rfl
@[go_sem] theorem rq_set16 (q : Req) (a : Option Addr) (cap : Nat) (x : Int) : (rq q a cap).setIfInBounds 16 (.int .i64 x) = rq { q with batch := { q.batch with seq := x } } a cap := by unfold rq reqCells; rfl
@[go_sem] theorem blank_kind (k : Nat) : (reqBlank k).kind = k := rfl
@[go_sem] theorem rq_kind (k k' : Nat) : ({ reqBlank k with kind := k' } : Req) = reqBlank k' := rfl
@[go_sem] theorem rq_zero : (#[.int .u8 0, .string ⟨#[]⟩, .int .i64 0, .int .i64 0, .bool false, .bool false, .int .i64 0, .int .i64 0, .int .i64 0, .string ⟨#[]⟩, .string ⟨#[]⟩, .int .i64 0, .int .i64 0, .int .i64 0, .int .i64 0, .int .i64 0, .int .i64 0, .slice none 0 0] : Array Value) = rq (reqBlank 0) none 0 := by unfold rq reqCells; rfl
theorem setRow_bset {W : World} {b : Nat} {C D : Array Value} {t : TypeId} {fr : Nat × Nat} (h : W.heap[b]? = some (.cells C t fr)) : W.setRow b D = bset W b (.cells D t fr) := by
  refine world_ext ?_ rfl rfl rfl rfl
  simp only [World.setRow, bset]
  rw [bset_eq_modify]
  apply Array.ext_getElem?
  intro j
  rw [Array.getElem?_modify, Array.getElem?_modify]
  by_cases hj : b = j
  · subst hj; simp [h]
  · simp [hj]
theorem store_block {P : Program} (W : World) (b : Nat) (ls : List Value) (C : Array Value) (t : TypeId) (h : W.heap[b]? = some (.cells C t)) (hs : ls.length = C.size) (h1 : ones ls) :
    (storeCells ⟨b, 0, none⟩ ls 0).run P W = .ok () (bset W b (.cells ls.toArray t)) := by
  rw [run_storeCells_from b t ls 0 C W h (by omega) h1, List.take_zero, List.nil_append, setRow_bset h]
@[go_sem ↓] theorem wd_store {P : Program} (w : World) (L : List (Array Obj)) (n B : Nat) (S : List Nat) (C : Array Value) (ls : List Value) (t : TypeId) (hB : B = w.heap.size) (hS : shape L = S) (hs : ls.length = C.size) (h1 : ones ls) :
    (storeCells ⟨sz B S, 0, none⟩ ls 0).run P (wd w (#[.cells C t] :: L) n) = .ok () (wd w (#[.cells ls.toArray t] :: L) n) := by
  rw [store_block _ _ ls C t (wd_at w L n B S _ hB hS) hs h1, bset_wd _ _ _ _ _ _ _ hB hS]
@[go_sem ↓] theorem wd_store1 {P : Program} (w : World) (L : List (Array Obj)) (n B : Nat) (S : List Nat) (p0 : Array Obj) (C : Array Value) (ls : List Value) (t : TypeId) (hB : B = w.heap.size) (hS : shape L = S) (hs : ls.length = C.size) (h1 : ones ls) :
    (storeCells ⟨sz B S, 0, none⟩ ls 0).run P (wd w (p0 :: #[.cells C t] :: L) n) = .ok () (wd w (p0 :: #[.cells ls.toArray t] :: L) n) := by
  rw [store_block _ _ ls C t (deep_push (wd_at w L n B S _ hB hS)) hs h1]
  congr 1
  subst hS
  rw [bset_wd_past _ _ _ _ _ _ _ hB (by simp [shape, inn]), bset_wd _ _ _ _ _ _ _ hB rfl]
  rfl
@[go_sem ↓] theorem wd_store2 {P : Program} (w : World) (L : List (Array Obj)) (n B : Nat) (S : List Nat) (p0 p1 : Array Obj) (C : Array Value) (ls : List Value) (t : TypeId) (hB : B = w.heap.size) (hS : shape L = S) (hs : ls.length = C.size) (h1 : ones ls) :
    (storeCells ⟨sz B S, 0, none⟩ ls 0).run P (wd w (p0 :: p1 :: #[.cells C t] :: L) n) = .ok () (wd w (p0 :: p1 :: #[.cells ls.toArray t] :: L) n) := by
  rw [store_block _ _ ls C t (deep_push (deep_push (wd_at w L n B S _ hB hS))) hs h1]
  congr 1
  subst hS
  rw [bset_wd_past _ _ _ _ _ _ _ hB (by simp [shape, inn]), bset_wd_past _ _ _ _ _ _ _ hB (by simp [shape, inn]), bset_wd _ _ _ _ _ _ _ hB rfl]
  rfl
@[go_sem ↓] theorem wd_store3 {P : Program} (w : World) (L : List (Array Obj)) (n B : Nat) (S : List Nat) (p0 p1 p2 : Array Obj) (C : Array Value) (ls : List Value) (t : TypeId) (hB : B = w.heap.size) (hS : shape L = S) (hs : ls.length = C.size) (h1 : ones ls) :
    (storeCells ⟨sz B S, 0, none⟩ ls 0).run P (wd w (p0 :: p1 :: p2 :: #[.cells C t] :: L) n) = .ok () (wd w (p0 :: p1 :: p2 :: #[.cells ls.toArray t] :: L) n) := by
  rw [store_block _ _ ls C t (deep_push (deep_push (deep_push (wd_at w L n B S _ hB hS)))) hs h1]
  congr 1
  subst hS
  rw [bset_wd_past _ _ _ _ _ _ _ hB (by simp [shape, inn]), bset_wd_past _ _ _ _ _ _ _ hB (by simp [shape, inn]), bset_wd_past _ _ _ _ _ _ _ hB (by simp [shape, inn]), bset_wd _ _ _ _ _ _ _ hB rfl]
  rfl
@[go_sem ↓] theorem wd_store4 {P : Program} (w : World) (L : List (Array Obj)) (n B : Nat) (S : List Nat) (p0 p1 p2 p3 : Array Obj) (C : Array Value) (ls : List Value) (t : TypeId) (hB : B = w.heap.size) (hS : shape L = S) (hs : ls.length = C.size) (h1 : ones ls) :
    (storeCells ⟨sz B S, 0, none⟩ ls 0).run P (wd w (p0 :: p1 :: p2 :: p3 :: #[.cells C t] :: L) n) = .ok () (wd w (p0 :: p1 :: p2 :: p3 :: #[.cells ls.toArray t] :: L) n) := by
  rw [store_block _ _ ls C t (deep_push (deep_push (deep_push (deep_push (wd_at w L n B S _ hB hS))))) hs h1]
  congr 1
  subst hS
  rw [bset_wd_past _ _ _ _ _ _ _ hB (by simp [shape, inn]), bset_wd_past _ _ _ _ _ _ _ hB (by simp [shape, inn]), bset_wd_past _ _ _ _ _ _ _ hB (by simp [shape, inn]), bset_wd_past _ _ _ _ _ _ _ hB (by simp [shape, inn]), bset_wd _ _ _ _ _ _ _ hB rfl]
  rfl
@[go_sem ↓] theorem wd_store5 {P : Program} (w : World) (L : List (Array Obj)) (n B : Nat) (S : List Nat) (p0 p1 p2 p3 p4 : Array Obj) (C : Array Value) (ls : List Value) (t : TypeId) (hB : B = w.heap.size) (hS : shape L = S) (hs : ls.length = C.size) (h1 : ones ls) :
    (storeCells ⟨sz B S, 0, none⟩ ls 0).run P (wd w (p0 :: p1 :: p2 :: p3 :: p4 :: #[.cells C t] :: L) n) = .ok () (wd w (p0 :: p1 :: p2 :: p3 :: p4 :: #[.cells ls.toArray t] :: L) n) := by
  rw [store_block _ _ ls C t (deep_push (deep_push (deep_push (deep_push (deep_push (wd_at w L n B S _ hB hS)))))) hs h1]
  congr 1
  subst hS
  rw [bset_wd_past _ _ _ _ _ _ _ hB (by simp [shape, inn]), bset_wd_past _ _ _ _ _ _ _ hB (by simp [shape, inn]), bset_wd_past _ _ _ _ _ _ _ hB (by simp [shape, inn]), bset_wd_past _ _ _ _ _ _ _ hB (by simp [shape, inn]), bset_wd_past _ _ _ _ _ _ _ hB (by simp [shape, inn]), bset_wd _ _ _ _ _ _ _ hB rfl]
  rfl
@[go_sem ↓] theorem wd_store6 {P : Program} (w : World) (L : List (Array Obj)) (n B : Nat) (S : List Nat) (p0 p1 p2 p3 p4 p5 : Array Obj) (C : Array Value) (ls : List Value) (t : TypeId) (hB : B = w.heap.size) (hS : shape L = S) (hs : ls.length = C.size) (h1 : ones ls) :
    (storeCells ⟨sz B S, 0, none⟩ ls 0).run P (wd w (p0 :: p1 :: p2 :: p3 :: p4 :: p5 :: #[.cells C t] :: L) n) = .ok () (wd w (p0 :: p1 :: p2 :: p3 :: p4 :: p5 :: #[.cells ls.toArray t] :: L) n) := by
  rw [store_block _ _ ls C t (deep_push (deep_push (deep_push (deep_push (deep_push (deep_push (wd_at w L n B S _ hB hS))))))) hs h1]
  congr 1
  subst hS
  rw [bset_wd_past _ _ _ _ _ _ _ hB (by simp [shape, inn]), bset_wd_past _ _ _ _ _ _ _ hB (by simp [shape, inn]), bset_wd_past _ _ _ _ _ _ _ hB (by simp [shape, inn]), bset_wd_past _ _ _ _ _ _ _ hB (by simp [shape, inn]), bset_wd_past _ _ _ _ _ _ _ hB (by simp [shape, inn]), bset_wd_past _ _ _ _ _ _ _ hB (by simp [shape, inn]), bset_wd _ _ _ _ _ _ _ hB rfl]
  rfl
@[go_sem ↓] theorem wd_store7 {P : Program} (w : World) (L : List (Array Obj)) (n B : Nat) (S : List Nat) (p0 p1 p2 p3 p4 p5 p6 : Array Obj) (C : Array Value) (ls : List Value) (t : TypeId) (hB : B = w.heap.size) (hS : shape L = S) (hs : ls.length = C.size) (h1 : ones ls) :
    (storeCells ⟨sz B S, 0, none⟩ ls 0).run P (wd w (p0 :: p1 :: p2 :: p3 :: p4 :: p5 :: p6 :: #[.cells C t] :: L) n) = .ok () (wd w (p0 :: p1 :: p2 :: p3 :: p4 :: p5 :: p6 :: #[.cells ls.toArray t] :: L) n) := by
  rw [store_block _ _ ls C t (deep_push (deep_push (deep_push (deep_push (deep_push (deep_push (deep_push (wd_at w L n B S _ hB hS)))))))) hs h1]
  congr 1
  subst hS
  rw [bset_wd_past _ _ _ _ _ _ _ hB (by simp [shape, inn]), bset_wd_past _ _ _ _ _ _ _ hB (by simp [shape, inn]), bset_wd_past _ _ _ _ _ _ _ hB (by simp [shape, inn]), bset_wd_past _ _ _ _ _ _ _ hB (by simp [shape, inn]), bset_wd_past _ _ _ _ _ _ _ hB (by simp [shape, inn]), bset_wd_past _ _ _ _ _ _ _ hB (by simp [shape, inn]), bset_wd_past _ _ _ _ _ _ _ hB (by simp [shape, inn]), bset_wd _ _ _ _ _ _ _ hB rfl]
  rfl
@[go_sem ↓] theorem wd_store8 {P : Program} (w : World) (L : List (Array Obj)) (n B : Nat) (S : List Nat) (p0 p1 p2 p3 p4 p5 p6 p7 : Array Obj) (C : Array Value) (ls : List Value) (t : TypeId) (hB : B = w.heap.size) (hS : shape L = S) (hs : ls.length = C.size) (h1 : ones ls) :
    (storeCells ⟨sz B S, 0, none⟩ ls 0).run P (wd w (p0 :: p1 :: p2 :: p3 :: p4 :: p5 :: p6 :: p7 :: #[.cells C t] :: L) n) = .ok () (wd w (p0 :: p1 :: p2 :: p3 :: p4 :: p5 :: p6 :: p7 :: #[.cells ls.toArray t] :: L) n) := by
  rw [store_block _ _ ls C t (deep_push (deep_push (deep_push (deep_push (deep_push (deep_push (deep_push (deep_push (wd_at w L n B S _ hB hS))))))))) hs h1]
  congr 1
  subst hS
  rw [bset_wd_past _ _ _ _ _ _ _ hB (by simp [shape, inn]), bset_wd_past _ _ _ _ _ _ _ hB (by simp [shape, inn]), bset_wd_past _ _ _ _ _ _ _ hB (by simp [shape, inn]), bset_wd_past _ _ _ _ _ _ _ hB (by simp [shape, inn]), bset_wd_past _ _ _ _ _ _ _ hB (by simp [shape, inn]), bset_wd_past _ _ _ _ _ _ _ hB (by simp [shape, inn]), bset_wd_past _ _ _ _ _ _ _ hB (by simp [shape, inn]), bset_wd_past _ _ _ _ _ _ _ hB (by simp [shape, inn]), bset_wd _ _ _ _ _ _ _ hB rfl]
  rfl
@[go_sem ↓] theorem wd_store9 {P : Program} (w : World) (L : List (Array Obj)) (n B : Nat) (S : List Nat) (p0 p1 p2 p3 p4 p5 p6 p7 p8 : Array Obj) (C : Array Value) (ls : List Value) (t : TypeId) (hB : B = w.heap.size) (hS : shape L = S) (hs : ls.length = C.size) (h1 : ones ls) :
    (storeCells ⟨sz B S, 0, none⟩ ls 0).run P (wd w (p0 :: p1 :: p2 :: p3 :: p4 :: p5 :: p6 :: p7 :: p8 :: #[.cells C t] :: L) n) = .ok () (wd w (p0 :: p1 :: p2 :: p3 :: p4 :: p5 :: p6 :: p7 :: p8 :: #[.cells ls.toArray t] :: L) n) := by
  rw [store_block _ _ ls C t (deep_push (deep_push (deep_push (deep_push (deep_push (deep_push (deep_push (deep_push (deep_push (wd_at w L n B S _ hB hS)))))))))) hs h1]
  congr 1
  subst hS
  rw [bset_wd_past _ _ _ _ _ _ _ hB (by simp [shape, inn]), bset_wd_past _ _ _ _ _ _ _ hB (by simp [shape, inn]), bset_wd_past _ _ _ _ _ _ _ hB (by simp [shape, inn]), bset_wd_past _ _ _ _ _ _ _ hB (by simp [shape, inn]), bset_wd_past _ _ _ _ _ _ _ hB (by simp [shape, inn]), bset_wd_past _ _ _ _ _ _ _ hB (by simp [shape, inn]), bset_wd_past _ _ _ _ _ _ _ hB (by simp [shape, inn]), bset_wd_past _ _ _ _ _ _ _ hB (by simp [shape, inn]), bset_wd_past _ _ _ _ _ _ _ hB (by simp [shape, inn]), bset_wd _ _ _ _ _ _ _ hB rfl]
  rfl
structure Stp where
  kind : Nat
  q : Req
  n : Int
  done : Bool
  fate : List UInt8
theorem stp_eq (x y : Stp) : x = y ↔ x.kind = y.kind ∧ x.q = y.q ∧ x.n = y.n ∧ x.done = y.done ∧ x.fate = y.fate := by
  cases x; cases y; simp
instance (x y : Stp) : Decidable (x = y) := decidable_of_iff _ (stp_eq x y).symm
instance : DecidableEq Stp := fun x y => inferInstance
def stpBlank (k : Nat) : Stp := ⟨k, reqBlank 0, 0, false, []⟩
instance : Inhabited Stp := ⟨stpBlank 0⟩
def stpCells (s : Stp) (a : Option Addr) (cap : Nat) (f : Option Addr) (fc : Nat) : List Value := .int .u8 (s.kind : Nat) :: (reqCells s.q a cap ++ [.int .i64 s.n, .bool s.done, .slice f s.fate.length fc])
def stp (s : Stp) (a : Option Addr) (cap : Nat) (f : Option Addr) (fc : Nat) : Array Value := (stpCells s a cap f fc).toArray
section
variable (s : Stp) (a : Option Addr) (cap : Nat) (f : Option Addr) (fc : Nat)
@[go_sem] theorem stp_size : (stp s a cap f fc).size = 22 := by unfold stp stpCells reqCells; rfl
@[go_sem] theorem stp_len : (stp s a cap f fc).toList.length = 22 := by unfold stp stpCells reqCells; rfl
@[go_sem] theorem stp_0 : (stp s a cap f fc)[0]? = some (.int .u8 (s.kind : Nat)) := by unfold stp stpCells reqCells; rfl
@[go_sem] theorem stp_at0 (h : 0 < (stp s a cap f fc).size) : (stp s a cap f fc)[0] = .int .u8 (s.kind : Nat) := by have := stp_0 s a cap f fc; rw [Array.getElem?_eq_getElem h] at this; exact Option.some.inj this
@[go_sem] theorem stp_19 : (stp s a cap f fc)[19]? = some (.int .i64 s.n) := by unfold stp stpCells reqCells; rfl
@[go_sem] theorem stp_at19 (h : 19 < (stp s a cap f fc).size) : (stp s a cap f fc)[19] = .int .i64 s.n := by have := stp_19 s a cap f fc; rw [Array.getElem?_eq_getElem h] at this; exact Option.some.inj this
@[go_sem] theorem stp_20 : (stp s a cap f fc)[20]? = some (.bool s.done) := by unfold stp stpCells reqCells; rfl
@[go_sem] theorem stp_at20 (h : 20 < (stp s a cap f fc).size) : (stp s a cap f fc)[20] = .bool s.done := by have := stp_20 s a cap f fc; rw [Array.getElem?_eq_getElem h] at this; exact Option.some.inj this
@[go_sem] theorem stp_21 : (stp s a cap f fc)[21]? = some (.slice f s.fate.length fc) := by unfold stp stpCells reqCells; rfl
@[go_sem] theorem stp_at21 (h : 21 < (stp s a cap f fc).size) : (stp s a cap f fc)[21] = .slice f s.fate.length fc := by have := stp_21 s a cap f fc; rw [Array.getElem?_eq_getElem h] at this; exact Option.some.inj this
@[go_sem] theorem stp_set0 (x : Nat) : (stp s a cap f fc).setIfInBounds 0 (.int .u8 (x : Nat)) = stp { s with kind := x } a cap f fc := by unfold stp stpCells reqCells; rfl
@[go_sem] theorem stp_set19 (x : Int) : (stp s a cap f fc).setIfInBounds 19 (.int .i64 x) = stp { s with n := x } a cap f fc := by unfold stp stpCells reqCells; rfl
@[go_sem] theorem stp_set20 (x : Bool) : (stp s a cap f fc).setIfInBounds 20 (.bool x) = stp { s with done := x } a cap f fc := by unfold stp stpCells reqCells; rfl
@[go_sem] theorem stp_set21 (l : List UInt8) (f' : Option Addr) (fc' : Nat) : (stp s a cap f fc).setIfInBounds 21 (.slice f' l.length fc') = stp { s with fate := l } a cap f' fc' := by unfold stp stpCells reqCells; rfl
@[go_sem] theorem stp_blank (k k' : Nat) : ({ stpBlank k with kind := k' } : Stp) = stpBlank k' := rfl
@[go_sem] theorem stpb_kind (k : Nat) : (stpBlank k).kind = k := rfl
@[go_sem] theorem stp_zero : (#[.int .u8 0, .int .u8 0, .string ⟨#[]⟩, .int .i64 0, .int .i64 0, .bool false, .bool false, .int .i64 0, .int .i64 0, .int .i64 0, .string ⟨#[]⟩, .string ⟨#[]⟩, .int .i64 0, .int .i64 0, .int .i64 0, .int .i64 0, .int .i64 0, .int .i64 0, .slice none 0 0, .int .i64 0, .bool false, .slice none 0 0] : Array Value) = stp (stpBlank 0) none 0 none 0 := by unfold stp stpCells reqCells; rfl
@[go_sem] theorem stp_one : ones (stp s a cap f fc).toList := by intro v hv; simp [stp, stpCells, reqCells] at hv; rcases hv with h | h | h | h | h | h | h | h | h | h | h | h | h | h | h | h | h | h | h | h | h | h <;> subst h <;> rfl
theorem rq_sub (i : Nat) (h : i < 18) : (stp s a cap f fc)[1 + i]? = (rq s.q a cap)[i]? := by
  have e : (stp s a cap f fc)[1 + i]? = (reqCells s.q a cap ++ [.int .i64 s.n, .bool s.done, .slice f s.fate.length fc])[i]? := by
    rw [show 1 + i = i + 1 by omega]; unfold stp stpCells; simp
  rw [e, List.getElem?_append_left (by simpa [reqCells] using h)]
  unfold rq; simp
end
theorem load_sub {P : Program} (W : World) (b : Nat) (s : Stp) (a : Option Addr) (cap : Nat) (f : Option Addr) (fc : Nat) (t : TypeId) (fr : Nat × Nat) (h : W.heap[b]? = some (.cells (stp s a cap f fc) t fr)) :
    (loadBlk ⟨b, 1, none⟩ 18).run P W = .ok (rq s.q a cap) W := by
  have h1 := run_loadCells_list (P := P) (w := W) ⟨b, 1, none⟩ (rq s.q a cap).toList (fun j v hv => by
    have hj : j < 18 := by
      have := (List.getElem?_eq_some_iff.1 hv).1
      rw [rq_len] at this; exact this
    rw [show (⟨b, 1, none⟩ : Addr).add j = ⟨b, 1 + j, none⟩ by unfold Addr.add; split <;> simp_all]
    simp only [World.cell?, h, rq_sub s a cap f fc j hj]
    simpa using hv)
  rw [rq_len] at h1
  unfold loadBlk
  simpa [loadCells] using h1
theorem store_sub {P : Program} (W : World) (b : Nat) (s : Stp) (q : Req) (a a' : Option Addr) (cap cap' : Nat) (f : Option Addr) (fc : Nat) (t : TypeId) (h : W.heap[b]? = some (.cells (stp s a cap f fc) t)) :
    (storeCells ⟨b, 1, none⟩ (rq q a' cap').toList 0).run P W = .ok () (bset W b (.cells (stp { s with q := q } a' cap' f fc) t)) := by
  rw [run_storeCells_at P b 1 t _ 0 _ W h (by rw [rq_len, stp_size]; decide) (rq_one q a' cap'), setRow_bset h]
  congr 3
@[go_sem] theorem wd_lsub0 {P : Program} (w : World) (L : List (Array Obj)) (n B : Nat) (S : List Nat) (s : Stp) (a : Option Addr) (cap : Nat) (f : Option Addr) (fc : Nat) (t : TypeId) (hB : B = w.heap.size) (hS : shape L = S) :
    (loadBlk ⟨sz B S, 1, none⟩ 18).run P (wd w (#[.cells (stp s a cap f fc) t] :: L) n) = .ok (rq s.q a cap) (wd w (#[.cells (stp s a cap f fc) t] :: L) n) :=
  load_sub _ _ s a cap f fc t (0, 0) (wd_at w L n B S _ hB hS)
@[go_sem ↓] theorem wd_ssub0 {P : Program} (w : World) (L : List (Array Obj)) (n B : Nat) (S : List Nat) (s : Stp) (q : Req) (a a' : Option Addr) (cap cap' : Nat) (f : Option Addr) (fc : Nat) (t : TypeId) (hB : B = w.heap.size) (hS : shape L = S) :
    (storeCells ⟨sz B S, 1, none⟩ (rq q a' cap').toList 0).run P (wd w (#[.cells (stp s a cap f fc) t] :: L) n) = .ok () (wd w (#[.cells (stp { s with q := q } a' cap' f fc) t] :: L) n) := by
  rw [store_sub _ _ s q a a' cap cap' f fc t (wd_at w L n B S _ hB hS)]
  congr 1
  subst hS
  rw [bset_wd _ _ _ _ _ _ _ hB rfl]
@[go_sem] theorem wd_lsub1 {P : Program} (w : World) (L : List (Array Obj)) (n B : Nat) (S : List Nat) (p0 : Array Obj) (s : Stp) (a : Option Addr) (cap : Nat) (f : Option Addr) (fc : Nat) (t : TypeId) (hB : B = w.heap.size) (hS : shape L = S) :
    (loadBlk ⟨sz B S, 1, none⟩ 18).run P (wd w (p0 :: #[.cells (stp s a cap f fc) t] :: L) n) = .ok (rq s.q a cap) (wd w (p0 :: #[.cells (stp s a cap f fc) t] :: L) n) :=
  load_sub _ _ s a cap f fc t (0, 0) (deep_push (wd_at w L n B S _ hB hS))
@[go_sem ↓] theorem wd_ssub1 {P : Program} (w : World) (L : List (Array Obj)) (n B : Nat) (S : List Nat) (p0 : Array Obj) (s : Stp) (q : Req) (a a' : Option Addr) (cap cap' : Nat) (f : Option Addr) (fc : Nat) (t : TypeId) (hB : B = w.heap.size) (hS : shape L = S) :
    (storeCells ⟨sz B S, 1, none⟩ (rq q a' cap').toList 0).run P (wd w (p0 :: #[.cells (stp s a cap f fc) t] :: L) n) = .ok () (wd w (p0 :: #[.cells (stp { s with q := q } a' cap' f fc) t] :: L) n) := by
  rw [store_sub _ _ s q a a' cap cap' f fc t (deep_push (wd_at w L n B S _ hB hS))]
  congr 1
  subst hS
  rw [bset_wd_past _ _ _ _ _ _ _ hB (by simp [shape, inn]), bset_wd _ _ _ _ _ _ _ hB rfl]
  rfl
@[go_sem] theorem wd_lsub2 {P : Program} (w : World) (L : List (Array Obj)) (n B : Nat) (S : List Nat) (p0 p1 : Array Obj) (s : Stp) (a : Option Addr) (cap : Nat) (f : Option Addr) (fc : Nat) (t : TypeId) (hB : B = w.heap.size) (hS : shape L = S) :
    (loadBlk ⟨sz B S, 1, none⟩ 18).run P (wd w (p0 :: p1 :: #[.cells (stp s a cap f fc) t] :: L) n) = .ok (rq s.q a cap) (wd w (p0 :: p1 :: #[.cells (stp s a cap f fc) t] :: L) n) :=
  load_sub _ _ s a cap f fc t (0, 0) (deep_push (deep_push (wd_at w L n B S _ hB hS)))
@[go_sem ↓] theorem wd_ssub2 {P : Program} (w : World) (L : List (Array Obj)) (n B : Nat) (S : List Nat) (p0 p1 : Array Obj) (s : Stp) (q : Req) (a a' : Option Addr) (cap cap' : Nat) (f : Option Addr) (fc : Nat) (t : TypeId) (hB : B = w.heap.size) (hS : shape L = S) :
    (storeCells ⟨sz B S, 1, none⟩ (rq q a' cap').toList 0).run P (wd w (p0 :: p1 :: #[.cells (stp s a cap f fc) t] :: L) n) = .ok () (wd w (p0 :: p1 :: #[.cells (stp { s with q := q } a' cap' f fc) t] :: L) n) := by
  rw [store_sub _ _ s q a a' cap cap' f fc t (deep_push (deep_push (wd_at w L n B S _ hB hS)))]
  congr 1
  subst hS
  rw [bset_wd_past _ _ _ _ _ _ _ hB (by simp [shape, inn]), bset_wd_past _ _ _ _ _ _ _ hB (by simp [shape, inn]), bset_wd _ _ _ _ _ _ _ hB rfl]
  rfl
@[go_sem] theorem wd_lsub3 {P : Program} (w : World) (L : List (Array Obj)) (n B : Nat) (S : List Nat) (p0 p1 p2 : Array Obj) (s : Stp) (a : Option Addr) (cap : Nat) (f : Option Addr) (fc : Nat) (t : TypeId) (hB : B = w.heap.size) (hS : shape L = S) :
    (loadBlk ⟨sz B S, 1, none⟩ 18).run P (wd w (p0 :: p1 :: p2 :: #[.cells (stp s a cap f fc) t] :: L) n) = .ok (rq s.q a cap) (wd w (p0 :: p1 :: p2 :: #[.cells (stp s a cap f fc) t] :: L) n) :=
  load_sub _ _ s a cap f fc t (0, 0) (deep_push (deep_push (deep_push (wd_at w L n B S _ hB hS))))
@[go_sem ↓] theorem wd_ssub3 {P : Program} (w : World) (L : List (Array Obj)) (n B : Nat) (S : List Nat) (p0 p1 p2 : Array Obj) (s : Stp) (q : Req) (a a' : Option Addr) (cap cap' : Nat) (f : Option Addr) (fc : Nat) (t : TypeId) (hB : B = w.heap.size) (hS : shape L = S) :
    (storeCells ⟨sz B S, 1, none⟩ (rq q a' cap').toList 0).run P (wd w (p0 :: p1 :: p2 :: #[.cells (stp s a cap f fc) t] :: L) n) = .ok () (wd w (p0 :: p1 :: p2 :: #[.cells (stp { s with q := q } a' cap' f fc) t] :: L) n) := by
  rw [store_sub _ _ s q a a' cap cap' f fc t (deep_push (deep_push (deep_push (wd_at w L n B S _ hB hS))))]
  congr 1
  subst hS
  rw [bset_wd_past _ _ _ _ _ _ _ hB (by simp [shape, inn]), bset_wd_past _ _ _ _ _ _ _ hB (by simp [shape, inn]), bset_wd_past _ _ _ _ _ _ _ hB (by simp [shape, inn]), bset_wd _ _ _ _ _ _ _ hB rfl]
  rfl
@[go_sem] theorem wd_lsub4 {P : Program} (w : World) (L : List (Array Obj)) (n B : Nat) (S : List Nat) (p0 p1 p2 p3 : Array Obj) (s : Stp) (a : Option Addr) (cap : Nat) (f : Option Addr) (fc : Nat) (t : TypeId) (hB : B = w.heap.size) (hS : shape L = S) :
    (loadBlk ⟨sz B S, 1, none⟩ 18).run P (wd w (p0 :: p1 :: p2 :: p3 :: #[.cells (stp s a cap f fc) t] :: L) n) = .ok (rq s.q a cap) (wd w (p0 :: p1 :: p2 :: p3 :: #[.cells (stp s a cap f fc) t] :: L) n) :=
  load_sub _ _ s a cap f fc t (0, 0) (deep_push (deep_push (deep_push (deep_push (wd_at w L n B S _ hB hS)))))
@[go_sem ↓] theorem wd_ssub4 {P : Program} (w : World) (L : List (Array Obj)) (n B : Nat) (S : List Nat) (p0 p1 p2 p3 : Array Obj) (s : Stp) (q : Req) (a a' : Option Addr) (cap cap' : Nat) (f : Option Addr) (fc : Nat) (t : TypeId) (hB : B = w.heap.size) (hS : shape L = S) :
    (storeCells ⟨sz B S, 1, none⟩ (rq q a' cap').toList 0).run P (wd w (p0 :: p1 :: p2 :: p3 :: #[.cells (stp s a cap f fc) t] :: L) n) = .ok () (wd w (p0 :: p1 :: p2 :: p3 :: #[.cells (stp { s with q := q } a' cap' f fc) t] :: L) n) := by
  rw [store_sub _ _ s q a a' cap cap' f fc t (deep_push (deep_push (deep_push (deep_push (wd_at w L n B S _ hB hS)))))]
  congr 1
  subst hS
  rw [bset_wd_past _ _ _ _ _ _ _ hB (by simp [shape, inn]), bset_wd_past _ _ _ _ _ _ _ hB (by simp [shape, inn]), bset_wd_past _ _ _ _ _ _ _ hB (by simp [shape, inn]), bset_wd_past _ _ _ _ _ _ _ hB (by simp [shape, inn]), bset_wd _ _ _ _ _ _ _ hB rfl]
  rfl
@[go_sem] theorem wd_lsub5 {P : Program} (w : World) (L : List (Array Obj)) (n B : Nat) (S : List Nat) (p0 p1 p2 p3 p4 : Array Obj) (s : Stp) (a : Option Addr) (cap : Nat) (f : Option Addr) (fc : Nat) (t : TypeId) (hB : B = w.heap.size) (hS : shape L = S) :
    (loadBlk ⟨sz B S, 1, none⟩ 18).run P (wd w (p0 :: p1 :: p2 :: p3 :: p4 :: #[.cells (stp s a cap f fc) t] :: L) n) = .ok (rq s.q a cap) (wd w (p0 :: p1 :: p2 :: p3 :: p4 :: #[.cells (stp s a cap f fc) t] :: L) n) :=
  load_sub _ _ s a cap f fc t (0, 0) (deep_push (deep_push (deep_push (deep_push (deep_push (wd_at w L n B S _ hB hS))))))
@[go_sem ↓] theorem wd_ssub5 {P : Program} (w : World) (L : List (Array Obj)) (n B : Nat) (S : List Nat) (p0 p1 p2 p3 p4 : Array Obj) (s : Stp) (q : Req) (a a' : Option Addr) (cap cap' : Nat) (f : Option Addr) (fc : Nat) (t : TypeId) (hB : B = w.heap.size) (hS : shape L = S) :
    (storeCells ⟨sz B S, 1, none⟩ (rq q a' cap').toList 0).run P (wd w (p0 :: p1 :: p2 :: p3 :: p4 :: #[.cells (stp s a cap f fc) t] :: L) n) = .ok () (wd w (p0 :: p1 :: p2 :: p3 :: p4 :: #[.cells (stp { s with q := q } a' cap' f fc) t] :: L) n) := by
  rw [store_sub _ _ s q a a' cap cap' f fc t (deep_push (deep_push (deep_push (deep_push (deep_push (wd_at w L n B S _ hB hS))))))]
  congr 1
  subst hS
  rw [bset_wd_past _ _ _ _ _ _ _ hB (by simp [shape, inn]), bset_wd_past _ _ _ _ _ _ _ hB (by simp [shape, inn]), bset_wd_past _ _ _ _ _ _ _ hB (by simp [shape, inn]), bset_wd_past _ _ _ _ _ _ _ hB (by simp [shape, inn]), bset_wd_past _ _ _ _ _ _ _ hB (by simp [shape, inn]), bset_wd _ _ _ _ _ _ _ hB rfl]
  rfl
@[go_sem] theorem wd_lsub6 {P : Program} (w : World) (L : List (Array Obj)) (n B : Nat) (S : List Nat) (p0 p1 p2 p3 p4 p5 : Array Obj) (s : Stp) (a : Option Addr) (cap : Nat) (f : Option Addr) (fc : Nat) (t : TypeId) (hB : B = w.heap.size) (hS : shape L = S) :
    (loadBlk ⟨sz B S, 1, none⟩ 18).run P (wd w (p0 :: p1 :: p2 :: p3 :: p4 :: p5 :: #[.cells (stp s a cap f fc) t] :: L) n) = .ok (rq s.q a cap) (wd w (p0 :: p1 :: p2 :: p3 :: p4 :: p5 :: #[.cells (stp s a cap f fc) t] :: L) n) :=
  load_sub _ _ s a cap f fc t (0, 0) (deep_push (deep_push (deep_push (deep_push (deep_push (deep_push (wd_at w L n B S _ hB hS)))))))
@[go_sem ↓] theorem wd_ssub6 {P : Program} (w : World) (L : List (Array Obj)) (n B : Nat) (S : List Nat) (p0 p1 p2 p3 p4 p5 : Array Obj) (s : Stp) (q : Req) (a a' : Option Addr) (cap cap' : Nat) (f : Option Addr) (fc : Nat) (t : TypeId) (hB : B = w.heap.size) (hS : shape L = S) :
    (storeCells ⟨sz B S, 1, none⟩ (rq q a' cap').toList 0).run P (wd w (p0 :: p1 :: p2 :: p3 :: p4 :: p5 :: #[.cells (stp s a cap f fc) t] :: L) n) = .ok () (wd w (p0 :: p1 :: p2 :: p3 :: p4 :: p5 :: #[.cells (stp { s with q := q } a' cap' f fc) t] :: L) n) := by
  rw [store_sub _ _ s q a a' cap cap' f fc t (deep_push (deep_push (deep_push (deep_push (deep_push (deep_push (wd_at w L n B S _ hB hS)))))))]
  congr 1
  subst hS
  rw [bset_wd_past _ _ _ _ _ _ _ hB (by simp [shape, inn]), bset_wd_past _ _ _ _ _ _ _ hB (by simp [shape, inn]), bset_wd_past _ _ _ _ _ _ _ hB (by simp [shape, inn]), bset_wd_past _ _ _ _ _ _ _ hB (by simp [shape, inn]), bset_wd_past _ _ _ _ _ _ _ hB (by simp [shape, inn]), bset_wd_past _ _ _ _ _ _ _ hB (by simp [shape, inn]), bset_wd _ _ _ _ _ _ _ hB rfl]
  rfl
@[go_sem] theorem wd_lsub7 {P : Program} (w : World) (L : List (Array Obj)) (n B : Nat) (S : List Nat) (p0 p1 p2 p3 p4 p5 p6 : Array Obj) (s : Stp) (a : Option Addr) (cap : Nat) (f : Option Addr) (fc : Nat) (t : TypeId) (hB : B = w.heap.size) (hS : shape L = S) :
    (loadBlk ⟨sz B S, 1, none⟩ 18).run P (wd w (p0 :: p1 :: p2 :: p3 :: p4 :: p5 :: p6 :: #[.cells (stp s a cap f fc) t] :: L) n) = .ok (rq s.q a cap) (wd w (p0 :: p1 :: p2 :: p3 :: p4 :: p5 :: p6 :: #[.cells (stp s a cap f fc) t] :: L) n) :=
  load_sub _ _ s a cap f fc t (0, 0) (deep_push (deep_push (deep_push (deep_push (deep_push (deep_push (deep_push (wd_at w L n B S _ hB hS))))))))
@[go_sem ↓] theorem wd_ssub7 {P : Program} (w : World) (L : List (Array Obj)) (n B : Nat) (S : List Nat) (p0 p1 p2 p3 p4 p5 p6 : Array Obj) (s : Stp) (q : Req) (a a' : Option Addr) (cap cap' : Nat) (f : Option Addr) (fc : Nat) (t : TypeId) (hB : B = w.heap.size) (hS : shape L = S) :
    (storeCells ⟨sz B S, 1, none⟩ (rq q a' cap').toList 0).run P (wd w (p0 :: p1 :: p2 :: p3 :: p4 :: p5 :: p6 :: #[.cells (stp s a cap f fc) t] :: L) n) = .ok () (wd w (p0 :: p1 :: p2 :: p3 :: p4 :: p5 :: p6 :: #[.cells (stp { s with q := q } a' cap' f fc) t] :: L) n) := by
  rw [store_sub _ _ s q a a' cap cap' f fc t (deep_push (deep_push (deep_push (deep_push (deep_push (deep_push (deep_push (wd_at w L n B S _ hB hS))))))))]
  congr 1
  subst hS
  rw [bset_wd_past _ _ _ _ _ _ _ hB (by simp [shape, inn]), bset_wd_past _ _ _ _ _ _ _ hB (by simp [shape, inn]), bset_wd_past _ _ _ _ _ _ _ hB (by simp [shape, inn]), bset_wd_past _ _ _ _ _ _ _ hB (by simp [shape, inn]), bset_wd_past _ _ _ _ _ _ _ hB (by simp [shape, inn]), bset_wd_past _ _ _ _ _ _ _ hB (by simp [shape, inn]), bset_wd_past _ _ _ _ _ _ _ hB (by simp [shape, inn]), bset_wd _ _ _ _ _ _ _ hB rfl]
  rfl
@[go_sem] theorem wd_lsub8 {P : Program} (w : World) (L : List (Array Obj)) (n B : Nat) (S : List Nat) (p0 p1 p2 p3 p4 p5 p6 p7 : Array Obj) (s : Stp) (a : Option Addr) (cap : Nat) (f : Option Addr) (fc : Nat) (t : TypeId) (hB : B = w.heap.size) (hS : shape L = S) :
    (loadBlk ⟨sz B S, 1, none⟩ 18).run P (wd w (p0 :: p1 :: p2 :: p3 :: p4 :: p5 :: p6 :: p7 :: #[.cells (stp s a cap f fc) t] :: L) n) = .ok (rq s.q a cap) (wd w (p0 :: p1 :: p2 :: p3 :: p4 :: p5 :: p6 :: p7 :: #[.cells (stp s a cap f fc) t] :: L) n) :=
  load_sub _ _ s a cap f fc t (0, 0) (deep_push (deep_push (deep_push (deep_push (deep_push (deep_push (deep_push (deep_push (wd_at w L n B S _ hB hS)))))))))
@[go_sem ↓] theorem wd_ssub8 {P : Program} (w : World) (L : List (Array Obj)) (n B : Nat) (S : List Nat) (p0 p1 p2 p3 p4 p5 p6 p7 : Array Obj) (s : Stp) (q : Req) (a a' : Option Addr) (cap cap' : Nat) (f : Option Addr) (fc : Nat) (t : TypeId) (hB : B = w.heap.size) (hS : shape L = S) :
    (storeCells ⟨sz B S, 1, none⟩ (rq q a' cap').toList 0).run P (wd w (p0 :: p1 :: p2 :: p3 :: p4 :: p5 :: p6 :: p7 :: #[.cells (stp s a cap f fc) t] :: L) n) = .ok () (wd w (p0 :: p1 :: p2 :: p3 :: p4 :: p5 :: p6 :: p7 :: #[.cells (stp { s with q := q } a' cap' f fc) t] :: L) n) := by
  rw [store_sub _ _ s q a a' cap cap' f fc t (deep_push (deep_push (deep_push (deep_push (deep_push (deep_push (deep_push (deep_push (wd_at w L n B S _ hB hS)))))))))]
  congr 1
  subst hS
  rw [bset_wd_past _ _ _ _ _ _ _ hB (by simp [shape, inn]), bset_wd_past _ _ _ _ _ _ _ hB (by simp [shape, inn]), bset_wd_past _ _ _ _ _ _ _ hB (by simp [shape, inn]), bset_wd_past _ _ _ _ _ _ _ hB (by simp [shape, inn]), bset_wd_past _ _ _ _ _ _ _ hB (by simp [shape, inn]), bset_wd_past _ _ _ _ _ _ _ hB (by simp [shape, inn]), bset_wd_past _ _ _ _ _ _ _ hB (by simp [shape, inn]), bset_wd_past _ _ _ _ _ _ _ hB (by simp [shape, inn]), bset_wd _ _ _ _ _ _ _ hB rfl]
  rfl
@[go_sem] theorem wd_lsub9 {P : Program} (w : World) (L : List (Array Obj)) (n B : Nat) (S : List Nat) (p0 p1 p2 p3 p4 p5 p6 p7 p8 : Array Obj) (s : Stp) (a : Option Addr) (cap : Nat) (f : Option Addr) (fc : Nat) (t : TypeId) (hB : B = w.heap.size) (hS : shape L = S) :
    (loadBlk ⟨sz B S, 1, none⟩ 18).run P (wd w (p0 :: p1 :: p2 :: p3 :: p4 :: p5 :: p6 :: p7 :: p8 :: #[.cells (stp s a cap f fc) t] :: L) n) = .ok (rq s.q a cap) (wd w (p0 :: p1 :: p2 :: p3 :: p4 :: p5 :: p6 :: p7 :: p8 :: #[.cells (stp s a cap f fc) t] :: L) n) :=
  load_sub _ _ s a cap f fc t (0, 0) (deep_push (deep_push (deep_push (deep_push (deep_push (deep_push (deep_push (deep_push (deep_push (wd_at w L n B S _ hB hS))))))))))
@[go_sem ↓] theorem wd_ssub9 {P : Program} (w : World) (L : List (Array Obj)) (n B : Nat) (S : List Nat) (p0 p1 p2 p3 p4 p5 p6 p7 p8 : Array Obj) (s : Stp) (q : Req) (a a' : Option Addr) (cap cap' : Nat) (f : Option Addr) (fc : Nat) (t : TypeId) (hB : B = w.heap.size) (hS : shape L = S) :
    (storeCells ⟨sz B S, 1, none⟩ (rq q a' cap').toList 0).run P (wd w (p0 :: p1 :: p2 :: p3 :: p4 :: p5 :: p6 :: p7 :: p8 :: #[.cells (stp s a cap f fc) t] :: L) n) = .ok () (wd w (p0 :: p1 :: p2 :: p3 :: p4 :: p5 :: p6 :: p7 :: p8 :: #[.cells (stp { s with q := q } a' cap' f fc) t] :: L) n) := by
  rw [store_sub _ _ s q a a' cap cap' f fc t (deep_push (deep_push (deep_push (deep_push (deep_push (deep_push (deep_push (deep_push (deep_push (wd_at w L n B S _ hB hS))))))))))]
  congr 1
  subst hS
  rw [bset_wd_past _ _ _ _ _ _ _ hB (by simp [shape, inn]), bset_wd_past _ _ _ _ _ _ _ hB (by simp [shape, inn]), bset_wd_past _ _ _ _ _ _ _ hB (by simp [shape, inn]), bset_wd_past _ _ _ _ _ _ _ hB (by simp [shape, inn]), bset_wd_past _ _ _ _ _ _ _ hB (by simp [shape, inn]), bset_wd_past _ _ _ _ _ _ _ hB (by simp [shape, inn]), bset_wd_past _ _ _ _ _ _ _ hB (by simp [shape, inn]), bset_wd_past _ _ _ _ _ _ _ hB (by simp [shape, inn]), bset_wd_past _ _ _ _ _ _ _ hB (by simp [shape, inn]), bset_wd _ _ _ _ _ _ _ hB rfl]
  rfl
end Go.Proofs.YtifoekadjnlhcaaGreatDoor
