/- Small laws for the walks: calls through a function value; 'plus w e n': the world w with blocks e behind it and n draws. -/
import Derived.Test.YtepdkcikkemieaaGreatRows
import Derived.WalkKit
import Derived.WalkSpells
import Derived.WalkLawsBesides
import Derived.Deep.QuietTactic
import Derived.BigQuiet
import Derived.Lib.Hide
namespace Go.Proofs.YtepdkcikkemieaaGreat
open Go.RowKit
set_option linter.unusedVariables false
set_option linter.unusedSimpArgs false

theorem execOp_call_tmp (a : Act) (dst : Option Tmp) (t f : Nat) (fst cap : Array Value) (h : a.eval (.tmp t) = .func (.func f) fst cap) (xs : Array Operand) (ats : Array TypeId) (ty : TypeId) (pos : String) (after : Array Edge) (guard : Option (Nat × Bool)) :
    execOp a.eval { dst, op := .call { callee := .value (.tmp t), args := xs, argTypes := ats }, type := ty, pos, after, guard } = callFunc f (fst ++ xs.map a.eval ++ cap) := by
  show (do let d ← resolve a.eval _ _; invoke d.target d.args) = _
  unfold resolve
  simp only [h]
  rfl

/-- The world w, with the blocks e behind it, and n draws. -/
def plus (w : World) (e : Array Obj) (n : Nat) : World := { w with heap := w.heap ++ e, drawn := n }
theorem plus_block (w : World) (e : Array Obj) (n k : Nat) (h : k < w.heap.size) : (plus w e n).heap[k]? = w.heap[k]? := by
  simp [plus, Array.getElem?_append, h]
theorem plus_size (w : World) (e : Array Obj) (n : Nat) : (plus w e n).heap.size = w.heap.size + e.size := by simp [plus]
theorem plus_cell (w : World) (e : Array Obj) (n k i : Nat) (h : k < w.heap.size) : (plus w e n).cell? ⟨k, i, none⟩ = w.cell? ⟨k, i, none⟩ := by
  simp only [World.cell?, plus_block w e n k h]
theorem plus_frozen (w : World) (e : Array Obj) (n k i : Nat) (h : k < w.heap.size) : (plus w e n).frozen? ⟨k, i, none⟩ = w.frozen? ⟨k, i, none⟩ := by
  simp only [World.frozen?, plus_block w e n k h]
theorem modify_append {α : Type} (a e : Array α) (k : Nat) (f : α → α) (h : k < a.size) : (a ++ e).modify k f = a.modify k f ++ e := by
  apply Array.ext_getElem?
  intro j
  simp only [Array.getElem?_modify, Array.getElem?_append, Array.size_modify]
  by_cases hj : j < a.size
  · simp [hj]
  · have : k ≠ j := by omega
    simp [hj, this]
theorem plus_setCell (w : World) (e : Array Obj) (n k i : Nat) (v : Value) (h : k < w.heap.size) : (plus w e n).setCell ⟨k, i, none⟩ v = plus (w.setCell ⟨k, i, none⟩ v) e n := by
  simp only [plus, World.setCell, modify_append _ _ _ _ h]
theorem world_ext {a b : World} (h1 : a.heap = b.heap) (h2 : a.tape = b.tape) (h3 : a.drawn = b.drawn) (h4 : a.os = b.os) (h5 : a.output = b.output) : a = b := by
  cases a; cases b; simp_all
theorem plus_drew (w : World) (e : Array Obj) (n : Nat) : (plus w e n).drew = plus w e (n + 1) := rfl
theorem plus_plus (w : World) (e e' : Array Obj) (n n' : Nat) : plus (plus w e n) e' n' = plus w (e ++ e') n' :=
  world_ext (Array.append_assoc ..) rfl rfl rfl rfl
theorem alloc_is_plus (w : World) (o : Obj) : w.alloc o = plus w #[o] w.drawn := world_ext rfl rfl rfl rfl rfl
theorem drew_is_plus (w : World) : w.drew = plus w #[] (w.drawn + 1) := world_ext (by simp [plus]) rfl rfl rfl rfl
/-- w' is w with some blocks behind it and some draws more. -/
def More (w w' : World) : Prop := ∃ e n, w' = plus w e n
theorem More.refl (w : World) : More w w := ⟨#[], w.drawn, world_ext (by simp [plus]) rfl rfl rfl rfl⟩
theorem More.trans {a b c : World} (h : More a b) (k : More b c) : More a c := by
  obtain ⟨e, n, rfl⟩ := h; obtain ⟨e', n', rfl⟩ := k; exact ⟨_, _, plus_plus _ _ _ _ _⟩
theorem More.alloc {a w : World} (h : More a w) (o : Obj) : More a (w.alloc o) := h.trans ⟨#[o], _, alloc_is_plus w o⟩
theorem More.drew {a w : World} (h : More a w) : More a w.drew := h.trans ⟨#[], _, drew_is_plus w⟩
theorem More.drewN {a w : World} (h : More a w) (m : Nat) : More a (w.drewN m) := h.trans ⟨#[], w.drawn + m, world_ext (by simp [plus, World.drewN]) rfl rfl rfl rfl⟩
theorem More.onto {a w : World} (h : More a w) (e : Array Obj) (n : Nat) : More a (plus w e n) := h.trans ⟨e, n, rfl⟩
theorem More.below {w w' : World} (h : More w w') : Below w.heap.size w w' := by
  obtain ⟨e, n, rfl⟩ := h
  exact ⟨rfl, rfl, rfl, by rw [plus_size]; omega, fun k hk => plus_block w e n k hk⟩
theorem drop_take_append (a : List Obj) (b : List Obj) (h : a.length ≤ b.length) (hk : ∀ k, k < a.length → b[k]? = a[k]?) : b = a ++ b.drop a.length := by
  have : b.take a.length = a := by
    apply List.ext_getElem?
    intro i
    by_cases hi : i < a.length
    · rw [List.getElem?_take, if_pos hi, hk i hi]
    · rw [List.getElem?_take, if_neg hi, List.getElem?_eq_none (by omega)]
  calc b = b.take a.length ++ b.drop a.length := (List.take_append_drop _ _).symm
    _ = _ := by rw [this]
theorem more_of_below {w w' : World} (h : Below w.heap.size w w') : More w w' := by
  refine ⟨(w'.heap.toList.drop w.heap.size).toArray, w'.drawn, world_ext ?_ h.tape rfl h.os h.output⟩
  apply Array.toList_inj.1
  show w'.heap.toList = (w.heap ++ (w'.heap.toList.drop w.heap.size).toArray).toList
  rw [Array.toList_append]
  exact drop_take_append _ _ h.size (fun k hk => by simpa using h.block k hk)

/-! ### A region that draws its order, whose operations read and whose callees only make memory -/
/-- Blocks and draws more (a structure of its own, so that simp leaves it whole). -/
structure Ext where
  e : Array Obj
  n : Nat
instance : Inhabited Ext := ⟨⟨#[], 0⟩⟩
theorem More.ext {w w' : World} (h : More w w') : ∃ m : Ext, w' = plus w m.e m.n := by obtain ⟨e, n, h⟩ := h; exact ⟨⟨e, n⟩, h⟩
theorem more_ext (w : World) (m : Ext) : More w (plus w m.e m.n) := ⟨_, _, rfl⟩
theorem wp_region_more {P : Program} {id : Nat} {Q : Exit → Act → World → Prop} {a : Act} {w : World} {l : List Oper} (hm : P.follows .mixedOrders = true) (hB : Region.lexB .any l.toArray = true)
    (h : wpQuiet P l.toArray (fun w' => ∃ m : Ext, w' = plus w m.e m.n) (fun a' => ∀ w', (∃ m : Ext, w' = plus w m.e m.n) → Q .normal a' w') l a) : (Code.region id l.toArray true).wp P Q a w :=
  wp_region_quiet (C := fun w' => ∃ m : Ext, w' = plus w m.e m.n) hm hB ⟨⟨#[], w.drawn + 1⟩, drew_is_plus w⟩ (by simpa using h)
/-- A callee's contract, met in a world of the class. -/
theorem Calls.more_of {P : Program} {f : FuncId} {args : Array Value} {w : World} {m : Ext} {v : Value}
    (h : Calls P f args (plus w m.e m.n) fun e w' => e = .returned v ∧ More (plus w m.e m.n) w') : Calls P f args (plus w m.e m.n) fun e w'' => e = .returned v ∧ ∃ m' : Ext, w'' = plus w m'.e m'.n :=
  h.mono fun _ _ ⟨he, hb⟩ => ⟨he, ((more_ext w m).trans hb).ext⟩

/-! ### 'wd w L n': the world w, with the blocks of L behind it (the NEWEST piece first: a block of the call's own is '#[o]', what a callee made is one piece of whatever length), and n draws more. An own block's number is 'sz B S', S the sizes of the pieces beneath it: which block is meant is read off the lists, with no arithmetic. -/
def hp (h : Array Obj) : List (Array Obj) → Array Obj
  | [] => h
  | s :: L => hp h L ++ s
def wd (w : World) (L : List (Array Obj)) (n : Nat) : World := { w with heap := hp w.heap L, drawn := n }
def sz (B : Nat) : List Nat → Nat
  | [] => B
  | k :: S => sz B S + k
def shape : List (Array Obj) → List Nat
  | [] => []
  | s :: L => s.size :: shape L
/-- The block above the pieces S is one of the pieces T. -/
def inn (S : List Nat) : List Nat → Prop
  | [] => False
  | x :: T => (x = 1 ∧ T = S) ∨ inn S T
@[go_sem] theorem shape_nil : shape [] = [] := by rw [shape]
@[go_sem] theorem shape_cons (s : Array Obj) (L : List (Array Obj)) : shape (s :: L) = s.size :: shape L := by rw [shape]
@[go_sem] theorem inn_nil (S : List Nat) : inn S [] = False := by rw [inn]
@[go_sem] theorem inn_cons (S T : List Nat) (x : Nat) : inn S (x :: T) = ((x = 1 ∧ T = S) ∨ inn S T) := by rw [inn]
theorem hp_size (h : Array Obj) : ∀ L, (hp h L).size = sz h.size (shape L)
  | [] => rfl
  | s :: L => by simp only [hp, Array.size_append, shape, sz, hp_size h L]
theorem sz_ge (B : Nat) : ∀ S, B ≤ sz B S
  | [] => Nat.le_refl _
  | k :: S => by have := sz_ge B S; simp only [sz]; omega
theorem inn_lt (B : Nat) {S : List Nat} : ∀ {T : List Nat}, inn S T → sz B S < sz B T
  | [], h => h.elim
  | x :: T, h => by
    rcases h with ⟨rfl, rfl⟩ | h
    · simp only [sz]; omega
    · have := inn_lt B h; simp only [sz]; omega
theorem hp_old (h : Array Obj) (k : Nat) (hk : k < h.size) : ∀ L, (hp h L)[k]? = h[k]?
  | [] => rfl
  | s :: L => by
    have h1 := hp_size h L
    have h2 := sz_ge h.size (shape L)
    rw [hp, Array.getElem?_append, if_pos (by omega), hp_old h k hk L]
theorem wd_nil (w : World) : wd w [] w.drawn = w := rfl
theorem calls_wd {P : Program} {f : FuncId} {args : Array Value} {w : World} {R : Ending → World → Prop} (h : Calls P f args (wd w [] w.drawn) R) : Calls P f args w R := h
@[go_sem] theorem wd_size (w : World) (L : List (Array Obj)) (n : Nat) : (wd w L n).heap.size = sz w.heap.size (shape L) := hp_size _ _
@[go_sem] theorem wd_alloc (w : World) (L : List (Array Obj)) (n : Nat) (o : Obj) : (wd w L n).alloc o = wd w (#[o] :: L) n := world_ext (Array.push_eq_append ..) rfl rfl rfl rfl
@[go_sem] theorem wd_drew (w : World) (L : List (Array Obj)) (n : Nat) : (wd w L n).drew = wd w L (n + 1) := rfl
@[go_sem] theorem wd_drewN (w : World) (L : List (Array Obj)) (n m : Nat) : (wd w L n).drewN m = wd w L (n + m) := rfl
@[go_sem] theorem wd_plus (w : World) (L : List (Array Obj)) (n m : Nat) (e : Array Obj) : plus (wd w L n) e m = wd w (e :: L) m := rfl
theorem more_wd (w : World) : ∀ (L : List (Array Obj)) (n : Nat), More w (wd w L n)
  | [], n => ⟨#[], n, world_ext (by simp [plus, wd, hp]) rfl rfl rfl rfl⟩
  | s :: L, n => by
    have h := more_wd w L n
    have e : wd w (s :: L) n = plus (wd w L n) s n := rfl
    rw [e]; exact h.onto s n
theorem wd_merge (w : World) (a b : Array Obj) (L : List (Array Obj)) (n : Nat) : wd w (b :: a :: L) n = wd w ((a ++ b) :: L) n := world_ext (Array.append_assoc ..) rfl rfl rfl rfl
theorem wd_empty (w : World) (L : List (Array Obj)) (n : Nat) : wd w (#[] :: L) n = wd w L n := world_ext (Array.append_empty) rfl rfl rfl rfl
/-! reading and writing an own block -/
theorem wd_at (w : World) (L : List (Array Obj)) (n B : Nat) (S : List Nat) (o : Obj) (hB : B = w.heap.size) (hS : shape L = S) : (wd w (#[o] :: L) n).heap[sz B S]? = some o := by
  subst hB hS
  show (hp w.heap L ++ #[o])[_]? = _
  rw [← hp_size, Array.getElem?_append, if_neg (by omega)]; simp
theorem wd_past (w : World) (L : List (Array Obj)) (n B : Nat) (S : List Nat) (s : Array Obj) (hB : B = w.heap.size) (hS : inn S (shape L)) : (wd w (s :: L) n).heap[sz B S]? = (wd w L n).heap[sz B S]? := by
  subst hB
  show (hp w.heap L ++ s)[_]? = (hp w.heap L)[_]?
  have := inn_lt w.heap.size hS
  rw [Array.getElem?_append, if_pos (by rw [hp_size]; exact this)]
theorem wd_old (w : World) (L : List (Array Obj)) (n k : Nat) (hk : k < w.heap.size) : (wd w L n).heap[k]? = w.heap[k]? := hp_old _ _ hk _
@[go_sem] theorem wd_cell (w : World) (L : List (Array Obj)) (n B i : Nat) (S : List Nat) (c : Array Value) (t : TypeId) (fr : Nat × Nat) (hB : B = w.heap.size) (hS : shape L = S) : (wd w (#[.cells c t fr] :: L) n).cell? ⟨sz B S, i, none⟩ = c[i]? := by
  simp only [World.cell?, wd_at w L n B S _ hB hS]; simp
@[go_sem] theorem wd_cell_past (w : World) (L : List (Array Obj)) (n B i : Nat) (S : List Nat) (s : Array Obj) (hB : B = w.heap.size) (hS : inn S (shape L)) : (wd w (s :: L) n).cell? ⟨sz B S, i, none⟩ = (wd w L n).cell? ⟨sz B S, i, none⟩ := by
  simp only [World.cell?, wd_past w L n B S s hB hS]
@[go_sem] theorem wd_cell_old (w : World) (L : List (Array Obj)) (n k i : Nat) (hk : k < w.heap.size) : (wd w L n).cell? ⟨k, i, none⟩ = w.cell? ⟨k, i, none⟩ := by
  simp only [World.cell?, wd_old w L n k hk]
@[go_sem] theorem wd_frozen (w : World) (L : List (Array Obj)) (n B i : Nat) (S : List Nat) (c : Array Value) (t : TypeId) (hB : B = w.heap.size) (hS : shape L = S) : (wd w (#[.cells c t] :: L) n).frozen? ⟨sz B S, i, none⟩ = false := by
  simp only [World.frozen?, wd_at w L n B S _ hB hS]; simp
@[go_sem] theorem wd_frozen_past (w : World) (L : List (Array Obj)) (n B i : Nat) (S : List Nat) (s : Array Obj) (hB : B = w.heap.size) (hS : inn S (shape L)) : (wd w (s :: L) n).frozen? ⟨sz B S, i, none⟩ = (wd w L n).frozen? ⟨sz B S, i, none⟩ := by
  simp only [World.frozen?, wd_past w L n B S s hB hS]
@[go_sem] theorem wd_frozen_old (w : World) (L : List (Array Obj)) (n k i : Nat) (hk : k < w.heap.size) : (wd w L n).frozen? ⟨k, i, none⟩ = w.frozen? ⟨k, i, none⟩ := by
  simp only [World.frozen?, wd_old w L n k hk]
/-- A piece more upon a world. -/
def onTop (s : Array Obj) (w : World) : World := plus w s w.drawn
@[go_sem] theorem onTop_wd (w : World) (L : List (Array Obj)) (n : Nat) (s : Array Obj) : onTop s (wd w L n) = wd w (s :: L) n := rfl
theorem modify_last {α : Type} (a : Array α) (x : α) (k : Nat) (f : α → α) (h : k = a.size) : (a ++ #[x]).modify k f = a ++ #[f x] := by
  apply Array.ext_getElem?
  intro j
  simp only [Array.getElem?_modify, Array.getElem?_append]
  by_cases hj : j < a.size
  · have : k ≠ j := by omega
    simp [hj, this]
  · by_cases hk : k = j
    · subst hk; subst h; simp
    · have h0 : j - a.size ≠ 0 := by omega
      simp [hj, hk]
      rw [List.getElem?_eq_none (by simp; omega), List.getElem?_eq_none (by simp; omega)]
@[go_sem] theorem wd_set (w : World) (L : List (Array Obj)) (n B i : Nat) (S : List Nat) (c : Array Value) (t : TypeId) (fr : Nat × Nat) (v : Value) (hB : B = w.heap.size) (hS : shape L = S) :
    (wd w (#[.cells c t fr] :: L) n).setCell ⟨sz B S, i, none⟩ v = wd w (#[.cells (c.setIfInBounds i v) t fr] :: L) n := by
  subst hB hS
  simp only [wd, World.setCell, hp, modify_last _ _ _ _ (hp_size _ _).symm]
  rfl
@[go_sem] theorem wd_set_past (w : World) (L : List (Array Obj)) (n B i : Nat) (S : List Nat) (s : Array Obj) (v : Value) (hB : B = w.heap.size) (hS : inn S (shape L)) :
    (wd w (s :: L) n).setCell ⟨sz B S, i, none⟩ v = onTop s ((wd w L n).setCell ⟨sz B S, i, none⟩ v) := by
  subst hB
  simp only [wd, World.setCell, hp, onTop, plus]
  rw [modify_append _ _ _ _ (by rw [hp_size]; exact inn_lt _ hS)]
theorem hp_modify (h : Array Obj) (k : Nat) (f : Obj → Obj) (hk : k < h.size) : ∀ L, (hp h L).modify k f = hp (h.modify k f) L
  | [] => rfl
  | s :: L => by
    have h1 := hp_size h L
    have h2 := sz_ge h.size (shape L)
    rw [hp, modify_append _ _ _ _ (by omega), hp_modify h k f hk L, hp]
@[go_sem] theorem wd_set_old (w : World) (L : List (Array Obj)) (n k i : Nat) (v : Value) (hk : k < w.heap.size) : (wd w L n).setCell ⟨k, i, none⟩ v = wd (w.setCell ⟨k, i, none⟩ v) L n := by
  simp only [wd, World.setCell]
  rw [hp_modify _ _ _ hk]

/-! ### the region rule, over such a world -/
theorem wp_region_wd {P : Program} {id : Nat} {Q : Exit → Act → World → Prop} {a : Act} {w : World} {L : List (Array Obj)} {n : Nat} {l : List Oper} (hm : P.follows .mixedOrders = true) (hB : Region.lexB .any l.toArray = true)
    (h : wpQuiet P l.toArray (fun w' => ∃ m : Ext, w' = wd w (m.e :: L) m.n) (fun a' => ∀ w', (∃ m : Ext, w' = wd w (m.e :: L) m.n) → Q .normal a' w') l a) : (Code.region id l.toArray true).wp P Q a (wd w L n) :=
  wp_region_quiet (C := fun w' => ∃ m : Ext, w' = wd w (m.e :: L) m.n) hm hB ⟨⟨#[], n + 1⟩, by rw [wd_empty]; rfl⟩ (by simpa using h)
theorem Calls.wd_of {P : Program} {f : FuncId} {args : Array Value} {w : World} {m : Ext} {L : List (Array Obj)} {v : Value}
    (h : Calls P f args (wd w (m.e :: L) m.n) fun e w' => e = .returned v ∧ More (wd w (m.e :: L) m.n) w') : Calls P f args (wd w (m.e :: L) m.n) fun e w'' => e = .returned v ∧ ∃ m' : Ext, w'' = wd w (m'.e :: L) m'.n :=
  h.mono fun _ _ ⟨he, hb⟩ => ⟨he, by obtain ⟨e, n, rfl⟩ := hb; exact ⟨⟨m.e ++ e, n⟩, by rw [wd_plus, wd_merge]⟩⟩
theorem Calls.wd_same {P : Program} {f : FuncId} {args : Array Value} {w : World} {m : Ext} {L : List (Array Obj)} {v : Value}
    (h : Calls P f args (wd w (m.e :: L) m.n) fun e w' => e = .returned v ∧ (wd w (m.e :: L) m.n) = w') : Calls P f args (wd w (m.e :: L) m.n) fun e w'' => e = .returned v ∧ ∃ m' : Ext, w'' = wd w (m'.e :: L) m'.n :=
  h.mono fun _ _ ⟨he, hb⟩ => ⟨he, m, hb.symm⟩

/-! ### Block j of a piece that a callee made (a row, a map) -/
def at' (B : Nat) (S : List Nat) (j : Nat) : Nat := sz B S + j
def inp (S : List Nat) (j : Nat) : List Nat → Prop
  | [] => False
  | x :: T => (T = S ∧ j < x) ∨ inp S j T
@[go_sem] theorem inp_nil (S : List Nat) (j : Nat) : inp S j [] = False := by rw [inp]
@[go_sem] theorem inp_cons (S T : List Nat) (j x : Nat) : inp S j (x :: T) = ((T = S ∧ j < x) ∨ inp S j T) := by rw [inp]
theorem inp_lt (B : Nat) {S : List Nat} {j : Nat} : ∀ {T : List Nat}, inp S j T → at' B S j < sz B T
  | [], h => h.elim
  | x :: T, h => by
    rcases h with ⟨rfl, h⟩ | h
    · simp only [sz, at']; omega
    · have := inp_lt B h; simp only [sz]; omega
def cellIn (e : Array Obj) (j i : Nat) : Option Value := match e[j]? with | some (.cells c _ _) => c[i]? | _ => none
theorem wd_block_in (w : World) (L : List (Array Obj)) (n B j : Nat) (S : List Nat) (e : Array Obj) (hB : B = w.heap.size) (hS : shape L = S) : (wd w (e :: L) n).heap[at' B S j]? = e[j]? := by
  subst hB hS
  show (hp w.heap L ++ e)[_]? = _
  rw [Array.getElem?_append, if_neg (by rw [hp_size]; unfold at'; omega), hp_size]
  congr 1
  unfold at'
  omega
theorem wd_block_past (w : World) (L : List (Array Obj)) (n B j : Nat) (S : List Nat) (s : Array Obj) (hB : B = w.heap.size) (hS : inp S j (shape L)) : (wd w (s :: L) n).heap[at' B S j]? = (wd w L n).heap[at' B S j]? := by
  subst hB
  show (hp w.heap L ++ s)[_]? = (hp w.heap L)[_]?
  have := inp_lt w.heap.size hS
  rw [Array.getElem?_append, if_pos (by rw [hp_size]; exact this)]
@[go_sem] theorem wd_cell_in (w : World) (L : List (Array Obj)) (n B j i : Nat) (S : List Nat) (e : Array Obj) (hB : B = w.heap.size) (hS : shape L = S) : (wd w (e :: L) n).cell? ⟨at' B S j, i, none⟩ = cellIn e j i := by
  simp only [World.cell?, wd_block_in w L n B j S e hB hS, cellIn]
  rfl
@[go_sem] theorem wd_cell_in_past (w : World) (L : List (Array Obj)) (n B j i : Nat) (S : List Nat) (s : Array Obj) (hB : B = w.heap.size) (hS : inp S j (shape L)) : (wd w (s :: L) n).cell? ⟨at' B S j, i, none⟩ = (wd w L n).cell? ⟨at' B S j, i, none⟩ := by
  simp only [World.cell?, wd_block_past w L n B j S s hB hS]
end Go.Proofs.YtepdkcikkemieaaGreat
