/- Small laws for the walks: calls through a function value; 'plus w e n': the world w with blocks e behind it and n draws. -/
import Derived.Test.YtifoekadjnlhcaaGreatDoorRows
import Derived.WalkKit
import Derived.WalkSpells
import Derived.WalkLawsBesides
import Derived.Deep.QuietTactic
import Derived.BigQuiet
import Derived.Lib.Hide
import Derived.ProofKit
import Derived.OpenShut
import Derived.ShutString
import Derived.ChangeOld
import Derived.Below
import Derived.Carry
import Derived.Lib.ConvBytes
import Derived.Lib.UnsafeStr
import Derived.Lib.AppendStr
import Derived.Laws.IdiomStrings
import Derived.Laws.OwnMore
import Derived.StillTail
namespace Go.Proofs.YtifoekadjnlhcaaGreatDoor
open Go.RowKit
set_option linter.unusedVariables false
set_option linter.unusedSimpArgs false
def plus (w : World) (e : Array Obj) (n : Nat) : World := { w with heap := w.heap ++ e, drawn := n }
theorem plus_block (w : World) (e : Array Obj) (n k : Nat) (h : k < w.heap.size) : (plus w e n).heap[k]? = w.heap[k]? := by
  simp [plus, Array.getElem?_append, h]
theorem plus_size (w : World) (e : Array Obj) (n : Nat) : (plus w e n).heap.size = w.heap.size + e.size := by simp [plus]
theorem modify_append {α : Type} (a e : Array α) (k : Nat) (f : α → α) (h : k < a.size) : (a ++ e).modify k f = a.modify k f ++ e := by
  apply Array.ext_getElem?
  intro j
  simp only [Array.getElem?_modify, Array.getElem?_append, Array.size_modify]
  by_cases hj : j < a.size
  · simp [hj]
  · have : k ≠ j := by omega
    simp [hj, this]
theorem plus_setCell (w : World) (e : Array Obj) (n k i : Nat) (v : Value) (h : k < w.heap.size) : (plus w e n).setCell ⟨k, i, none⟩ v = plus (w.setCell ⟨k, i, none⟩ v) e n := by
  simp only [plus, World.setCell, modify_append _ _ _ _ h]
theorem world_ext {a b : World} (h1 : a.heap = b.heap) (h2 : a.tape = b.tape) (h3 : a.drawn = b.drawn) (h4 : a.os = b.os) (h5 : a.output = b.output) : a = b := by
  cases a; cases b; simp_all
theorem plus_plus (w : World) (e e' : Array Obj) (n n' : Nat) : plus (plus w e n) e' n' = plus w (e ++ e') n' :=
  world_ext (Array.append_assoc ..) rfl rfl rfl rfl
theorem alloc_is_plus (w : World) (o : Obj) : w.alloc o = plus w #[o] w.drawn := world_ext rfl rfl rfl rfl rfl
theorem drew_is_plus (w : World) : w.drew = plus w #[] (w.drawn + 1) := world_ext (by simp [plus]) rfl rfl rfl rfl
def More (w w' : World) : Prop := ∃ e n, w' = plus w e n
theorem More.refl (w : World) : More w w := ⟨#[], w.drawn, world_ext (by simp [plus]) rfl rfl rfl rfl⟩
theorem More.trans {a b c : World} (h : More a b) (k : More b c) : More a c := by
  obtain ⟨e, n, rfl⟩ := h; obtain ⟨e', n', rfl⟩ := k; exact ⟨_, _, plus_plus _ _ _ _ _⟩
theorem More.alloc {a w : World} (h : More a w) (o : Obj) : More a (w.alloc o) := h.trans ⟨#[o], _, alloc_is_plus w o⟩
theorem More.drew {a w : World} (h : More a w) : More a w.drew := h.trans ⟨#[], _, drew_is_plus w⟩
theorem More.drewN {a w : World} (h : More a w) (m : Nat) : More a (w.drewN m) := h.trans ⟨#[], w.drawn + m, world_ext (by simp [plus, World.drewN]) rfl rfl rfl rfl⟩
theorem More.onto {a w : World} (h : More a w) (e : Array Obj) (n : Nat) : More a (plus w e n) := h.trans ⟨e, n, rfl⟩
theorem More.below {w w' : World} (h : More w w') : Below w.heap.size w w' := by
  obtain ⟨e, n, rfl⟩ := h
  exact ⟨rfl, rfl, rfl, by rw [plus_size]; omega, fun k hk => plus_block w e n k hk⟩
theorem drop_take_append (a : List Obj) (b : List Obj) (h : a.length ≤ b.length) (hk : ∀ k, k < a.length → b[k]? = a[k]?) : b = a ++ b.drop a.length := by
  have : b.take a.length = a := by
    apply List.ext_getElem?
    intro i
    by_cases hi : i < a.length
    · rw [List.getElem?_take, if_pos hi, hk i hi]
    · rw [List.getElem?_take, if_neg hi, List.getElem?_eq_none (by omega)]
  calc b = b.take a.length ++ b.drop a.length := (List.take_append_drop _ _).symm
    _ = _ := by rw [this]
theorem more_of_below {w w' : World} (h : Below w.heap.size w w') : More w w' := by
  refine ⟨(w'.heap.toList.drop w.heap.size).toArray, w'.drawn, world_ext ?_ h.tape rfl h.os h.output⟩
  apply Array.toList_inj.1
  show w'.heap.toList = (w.heap ++ (w'.heap.toList.drop w.heap.size).toArray).toList
  rw [Array.toList_append]
  exact drop_take_append _ _ h.size (fun k hk => by simpa using h.block k hk)
structure Ext where
  e : Array Obj
  n : Nat
instance : Inhabited Ext := ⟨⟨#[], 0⟩⟩
theorem More.ext {w w' : World} (h : More w w') : ∃ m : Ext, w' = plus w m.e m.n := by obtain ⟨e, n, h⟩ := h; exact ⟨⟨e, n⟩, h⟩
def hp (h : Array Obj) : List (Array Obj) → Array Obj
  | [] => h
  | s :: L => hp h L ++ s
def wd (w : World) (L : List (Array Obj)) (n : Nat) : World := { w with heap := hp w.heap L, drawn := n }
def sz (B : Nat) : List Nat → Nat
  | [] => B
  | k :: S => sz B S + k
def shape : List (Array Obj) → List Nat
  | [] => []
  | s :: L => s.size :: shape L
def inn (S : List Nat) : List Nat → Prop
  | [] => False
  | x :: T => (x = 1 ∧ T = S) ∨ inn S T
@[go_sem] theorem shape_nil : shape [] = [] := by rw [shape]
@[go_sem] theorem shape_cons (s : Array Obj) (L : List (Array Obj)) : shape (s :: L) = s.size :: shape L := by rw [shape]
@[go_sem] theorem inn_nil (S : List Nat) : inn S [] = False := by rw [inn]
@[go_sem] theorem inn_cons (S T : List Nat) (x : Nat) : inn S (x :: T) = ((x = 1 ∧ T = S) ∨ inn S T) := by rw [inn]
theorem hp_size (h : Array Obj) : ∀ L, (hp h L).size = sz h.size (shape L)
  | [] => rfl
  | s :: L => by simp only [hp, Array.size_append, shape, sz, hp_size h L]
theorem sz_ge (B : Nat) : ∀ S, B ≤ sz B S
  | [] => Nat.le_refl _
  | k :: S => by have := sz_ge B S; simp only [sz]; omega
theorem inn_lt (B : Nat) {S : List Nat} : ∀ {T : List Nat}, inn S T → sz B S < sz B T
  | [], h => h.elim
  | x :: T, h => by
    rcases h with ⟨rfl, rfl⟩ | h
    · simp only [sz]; omega
    · have := inn_lt B h; simp only [sz]; omega
theorem hp_old (h : Array Obj) (k : Nat) (hk : k < h.size) : ∀ L, (hp h L)[k]? = h[k]?
  | [] => rfl
  | s :: L => by
    have h1 := hp_size h L
    have h2 := sz_ge h.size (shape L)
    rw [hp, Array.getElem?_append, if_pos (by omega), hp_old h k hk L]
theorem wd_nil (w : World) : wd w [] w.drawn = w := rfl
theorem calls_wd {P : Program} {f : FuncId} {args : Array Value} {w : World} {R : Ending → World → Prop} (h : Calls P f args (wd w [] w.drawn) R) : Calls P f args w R := h
@[go_sem] theorem wd_size (w : World) (L : List (Array Obj)) (n : Nat) : (wd w L n).heap.size = sz w.heap.size (shape L) := hp_size _ _
@[go_sem] theorem wd_alloc (w : World) (L : List (Array Obj)) (n : Nat) (o : Obj) : (wd w L n).alloc o = wd w (#[o] :: L) n := world_ext (Array.push_eq_append ..) rfl rfl rfl rfl
@[go_sem] theorem wd_drew (w : World) (L : List (Array Obj)) (n : Nat) : (wd w L n).drew = wd w L (n + 1) := rfl
@[go_sem] theorem wd_drewN (w : World) (L : List (Array Obj)) (n m : Nat) : (wd w L n).drewN m = wd w L (n + m) := rfl
@[go_sem] theorem wd_plus (w : World) (L : List (Array Obj)) (n m : Nat) (e : Array Obj) : plus (wd w L n) e m = wd w (e :: L) m := rfl
theorem more_wd (w : World) : ∀ (L : List (Array Obj)) (n : Nat), More w (wd w L n)
  | [], n => ⟨#[], n, world_ext (by simp [plus, wd, hp]) rfl rfl rfl rfl⟩
  | s :: L, n => by
    have h := more_wd w L n
    have e : wd w (s :: L) n = plus (wd w L n) s n := rfl
    rw [e]; exact h.onto s n
theorem wd_merge (w : World) (a b : Array Obj) (L : List (Array Obj)) (n : Nat) : wd w (b :: a :: L) n = wd w ((a ++ b) :: L) n := world_ext (Array.append_assoc ..) rfl rfl rfl rfl
theorem wd_empty (w : World) (L : List (Array Obj)) (n : Nat) : wd w (#[] :: L) n = wd w L n := world_ext (Array.append_empty) rfl rfl rfl rfl
theorem wd_at (w : World) (L : List (Array Obj)) (n B : Nat) (S : List Nat) (o : Obj) (hB : B = w.heap.size) (hS : shape L = S) : (wd w (#[o] :: L) n).heap[sz B S]? = some o := by
  subst hB hS
  show (hp w.heap L ++ #[o])[_]? = _
  rw [← hp_size, Array.getElem?_append, if_neg (by omega)]; simp
theorem wd_past (w : World) (L : List (Array Obj)) (n B : Nat) (S : List Nat) (s : Array Obj) (hB : B = w.heap.size) (hS : inn S (shape L)) : (wd w (s :: L) n).heap[sz B S]? = (wd w L n).heap[sz B S]? := by
  subst hB
  show (hp w.heap L ++ s)[_]? = (hp w.heap L)[_]?
  have := inn_lt w.heap.size hS
  rw [Array.getElem?_append, if_pos (by rw [hp_size]; exact this)]
theorem wd_old (w : World) (L : List (Array Obj)) (n k : Nat) (hk : k < w.heap.size) : (wd w L n).heap[k]? = w.heap[k]? := hp_old _ _ hk _
@[go_sem] theorem wd_cell (w : World) (L : List (Array Obj)) (n B i : Nat) (S : List Nat) (c : Array Value) (t : TypeId) (fr : Nat × Nat) (hB : B = w.heap.size) (hS : shape L = S) : (wd w (#[.cells c t fr] :: L) n).cell? ⟨sz B S, i, none⟩ = c[i]? := by
  simp only [World.cell?, wd_at w L n B S _ hB hS]; simp
@[go_sem] theorem wd_cell_past (w : World) (L : List (Array Obj)) (n B i : Nat) (S : List Nat) (s : Array Obj) (hB : B = w.heap.size) (hS : inn S (shape L)) : (wd w (s :: L) n).cell? ⟨sz B S, i, none⟩ = (wd w L n).cell? ⟨sz B S, i, none⟩ := by
  simp only [World.cell?, wd_past w L n B S s hB hS]
@[go_sem] theorem wd_cell_old (w : World) (L : List (Array Obj)) (n k i : Nat) (hk : k < w.heap.size) : (wd w L n).cell? ⟨k, i, none⟩ = w.cell? ⟨k, i, none⟩ := by
  simp only [World.cell?, wd_old w L n k hk]
@[go_sem] theorem wd_frozen (w : World) (L : List (Array Obj)) (n B i : Nat) (S : List Nat) (c : Array Value) (t : TypeId) (hB : B = w.heap.size) (hS : shape L = S) : (wd w (#[.cells c t] :: L) n).frozen? ⟨sz B S, i, none⟩ = false := by
  simp only [World.frozen?, wd_at w L n B S _ hB hS]; simp
@[go_sem] theorem wd_frozen_past (w : World) (L : List (Array Obj)) (n B i : Nat) (S : List Nat) (s : Array Obj) (hB : B = w.heap.size) (hS : inn S (shape L)) : (wd w (s :: L) n).frozen? ⟨sz B S, i, none⟩ = (wd w L n).frozen? ⟨sz B S, i, none⟩ := by
  simp only [World.frozen?, wd_past w L n B S s hB hS]
@[go_sem] theorem wd_frozen_old (w : World) (L : List (Array Obj)) (n k i : Nat) (hk : k < w.heap.size) : (wd w L n).frozen? ⟨k, i, none⟩ = w.frozen? ⟨k, i, none⟩ := by
  simp only [World.frozen?, wd_old w L n k hk]
def onTop (s : Array Obj) (w : World) : World := plus w s w.drawn
@[go_sem] theorem onTop_wd (w : World) (L : List (Array Obj)) (n : Nat) (s : Array Obj) : onTop s (wd w L n) = wd w (s :: L) n := rfl
theorem modify_last {α : Type} (a : Array α) (x : α) (k : Nat) (f : α → α) (h : k = a.size) : (a ++ #[x]).modify k f = a ++ #[f x] := by
  apply Array.ext_getElem?
  intro j
  simp only [Array.getElem?_modify, Array.getElem?_append]
  by_cases hj : j < a.size
  · have : k ≠ j := by omega
    simp [hj, this]
  · by_cases hk : k = j
    · subst hk; subst h; simp
    · have h0 : j - a.size ≠ 0 := by omega
      simp [hj, hk]
      rw [List.getElem?_eq_none (by simp; omega), List.getElem?_eq_none (by simp; omega)]
@[go_sem] theorem wd_set (w : World) (L : List (Array Obj)) (n B i : Nat) (S : List Nat) (c : Array Value) (t : TypeId) (fr : Nat × Nat) (v : Value) (hB : B = w.heap.size) (hS : shape L = S) :
    (wd w (#[.cells c t fr] :: L) n).setCell ⟨sz B S, i, none⟩ v = wd w (#[.cells (c.setIfInBounds i v) t fr] :: L) n := by
  subst hB hS
  simp only [wd, World.setCell, hp, modify_last _ _ _ _ (hp_size _ _).symm]
  rfl
@[go_sem] theorem wd_set_past (w : World) (L : List (Array Obj)) (n B i : Nat) (S : List Nat) (s : Array Obj) (v : Value) (hB : B = w.heap.size) (hS : inn S (shape L)) :
    (wd w (s :: L) n).setCell ⟨sz B S, i, none⟩ v = onTop s ((wd w L n).setCell ⟨sz B S, i, none⟩ v) := by
  subst hB
  simp only [wd, World.setCell, hp, onTop, plus]
  rw [modify_append _ _ _ _ (by rw [hp_size]; exact inn_lt _ hS)]
theorem hp_modify (h : Array Obj) (k : Nat) (f : Obj → Obj) (hk : k < h.size) : ∀ L, (hp h L).modify k f = hp (h.modify k f) L
  | [] => rfl
  | s :: L => by
    have h1 := hp_size h L
    have h2 := sz_ge h.size (shape L)
    rw [hp, modify_append _ _ _ _ (by omega), hp_modify h k f hk L, hp]
@[go_sem] theorem wd_set_old (w : World) (L : List (Array Obj)) (n k i : Nat) (v : Value) (hk : k < w.heap.size) : (wd w L n).setCell ⟨k, i, none⟩ v = wd (w.setCell ⟨k, i, none⟩ v) L n := by
  simp only [wd, World.setCell]
  rw [hp_modify _ _ _ hk]
theorem wp_region_wd {P : Program} {id : Nat} {Q : Exit → Act → World → Prop} {a : Act} {w : World} {L : List (Array Obj)} {n : Nat} {l : List Oper} (hm : P.follows .mixedOrders = true) (hB : Region.lexB .any l.toArray = true)
    (h : wpQuiet P l.toArray (fun w' => ∃ m : Ext, w' = wd w (m.e :: L) m.n) (fun a' => ∀ w', (∃ m : Ext, w' = wd w (m.e :: L) m.n) → Q .normal a' w') l a) : (Code.region id l.toArray true).wp P Q a (wd w L n) :=
  wp_region_quiet (C := fun w' => ∃ m : Ext, w' = wd w (m.e :: L) m.n) hm hB ⟨⟨#[], n + 1⟩, by rw [wd_empty]; rfl⟩ (by simpa using h)
def at' (B : Nat) (S : List Nat) (j : Nat) : Nat := sz B S + j
def inp (S : List Nat) (j : Nat) : List Nat → Prop
  | [] => False
  | x :: T => (T = S ∧ j < x) ∨ inp S j T
@[go_sem] theorem inp_nil (S : List Nat) (j : Nat) : inp S j [] = False := by rw [inp]
@[go_sem] theorem inp_cons (S T : List Nat) (j x : Nat) : inp S j (x :: T) = ((T = S ∧ j < x) ∨ inp S j T) := by rw [inp]
theorem inp_lt (B : Nat) {S : List Nat} {j : Nat} : ∀ {T : List Nat}, inp S j T → at' B S j < sz B T
  | [], h => h.elim
  | x :: T, h => by
    rcases h with ⟨rfl, h⟩ | h
    · simp only [sz, at']; omega
    · have := inp_lt B h; simp only [sz]; omega
def cellIn (e : Array Obj) (j i : Nat) : Option Value := match e[j]? with | some (.cells c _ _) => c[i]? | _ => none
theorem wd_block_in (w : World) (L : List (Array Obj)) (n B j : Nat) (S : List Nat) (e : Array Obj) (hB : B = w.heap.size) (hS : shape L = S) : (wd w (e :: L) n).heap[at' B S j]? = e[j]? := by
  subst hB hS
  show (hp w.heap L ++ e)[_]? = _
  rw [Array.getElem?_append, if_neg (by rw [hp_size]; unfold at'; omega), hp_size]
  congr 1
  unfold at'
  omega
theorem wd_block_past (w : World) (L : List (Array Obj)) (n B j : Nat) (S : List Nat) (s : Array Obj) (hB : B = w.heap.size) (hS : inp S j (shape L)) : (wd w (s :: L) n).heap[at' B S j]? = (wd w L n).heap[at' B S j]? := by
  subst hB
  show (hp w.heap L ++ s)[_]? = (hp w.heap L)[_]?
  have := inp_lt w.heap.size hS
  rw [Array.getElem?_append, if_pos (by rw [hp_size]; exact this)]
@[go_sem] theorem wd_cell_in (w : World) (L : List (Array Obj)) (n B j i : Nat) (S : List Nat) (e : Array Obj) (hB : B = w.heap.size) (hS : shape L = S) : (wd w (e :: L) n).cell? ⟨at' B S j, i, none⟩ = cellIn e j i := by
  simp only [World.cell?, wd_block_in w L n B j S e hB hS, cellIn]
  rfl
@[go_sem] theorem wd_cell_in_past (w : World) (L : List (Array Obj)) (n B j i : Nat) (S : List Nat) (s : Array Obj) (hB : B = w.heap.size) (hS : inp S j (shape L)) : (wd w (s :: L) n).cell? ⟨at' B S j, i, none⟩ = (wd w L n).cell? ⟨at' B S j, i, none⟩ := by
  simp only [World.cell?, wd_block_past w L n B j S s hB hS]
def rowIn (B : Nat) (S : List Nat) (e : Array Obj) (E : TypeId) (size : Nat) (v : Value) (n : Nat) (xs : List Value) : Prop :=
  xs.length = n * size ∧ ((v = .slice none 0 0 ∧ n = 0) ∨
    ∃ j cap cur, v = .slice (some ⟨at' B S j, 0, none⟩) n cap ∧ j < e.size ∧ e[j]? = some (.cells cur E (0, 0)) ∧ n ≤ cap ∧ cap ≤ maxLen ∧ cur.size = cap * size ∧ cur.toList.take (n * size) = xs)
theorem rowIn_nil (B : Nat) (S : List Nat) (e : Array Obj) (E : TypeId) (size : Nat) : rowIn B S e E size (.slice none 0 0) 0 [] := ⟨by simp, .inl ⟨rfl, rfl⟩⟩
theorem rowIn_more {B : Nat} {S : List Nat} {e : Array Obj} {E : TypeId} {size : Nat} {v : Value} {n : Nat} {xs : List Value} (h : rowIn B S e E size v n xs) (e' : Array Obj) : rowIn B S (e ++ e') E size v n xs := by
  obtain ⟨h1, h2⟩ := h
  refine ⟨h1, ?_⟩
  rcases h2 with h2 | ⟨j, cap, cur, hv, hj, he, r⟩
  · exact .inl h2
  · exact .inr ⟨j, cap, cur, hv, by rw [Array.size_append]; omega, by rw [Array.getElem?_append, if_pos hj]; exact he, r⟩
theorem rowIn_look {B : Nat} {S : List Nat} {e : Array Obj} {E : TypeId} {size : Nat} {v : Value} {n : Nat} {xs : List Value} (h : rowIn B S e E size v n xs) :
    (v = .slice none 0 0 ∧ n = 0 ∧ xs = []) ∨ ∃ j cap, v = .slice (some ⟨at' B S j, 0, none⟩) n cap ∧ n ≤ cap ∧ cap ≤ maxLen ∧ j < e.size ∧ ∀ i, i < n * size → cellIn e j i = xs[i]? := by
  obtain ⟨h1, h2⟩ := h
  rcases h2 with ⟨h2, rfl⟩ | ⟨j, cap, cur, hv, hj, he, hn, hm, hs, hx⟩
  · exact .inl ⟨h2, rfl, by simpa using h1⟩
  · refine .inr ⟨j, cap, hv, hn, hm, hj, fun i hi => ?_⟩
    unfold cellIn
    rw [he]
    simp only
    rw [← hx, List.getElem?_take, if_pos hi]
    simp
theorem owns_of_row {w : World} {L : List (Array Obj)} {k : Nat} {e : Array Obj} {E : TypeId} {size : Nat} {v : Value} {n : Nat} {xs : List Value} (h : rowIn w.heap.size (shape L) e E size v n xs) : (wd w (e :: L) k).ownsRow (sz w.heap.size (shape L)) E size v n xs := by
  obtain ⟨h1, h2⟩ := h
  refine ⟨h1, ?_⟩
  rcases h2 with h2 | ⟨j, cap, cur, hv, hj, he, r⟩
  · exact .inl h2
  · exact .inr ⟨_, cap, cur, hv, by unfold at'; omega, by rw [wd_block_in w L k _ j _ e rfl rfl]; exact he, r⟩
theorem row_of_owns {w : World} {L : List (Array Obj)} {k : Nat} {e : Array Obj} {E : TypeId} {size : Nat} {v : Value} {n : Nat} {xs : List Value} (h : (wd w (e :: L) k).ownsRow (sz w.heap.size (shape L)) E size v n xs) : rowIn w.heap.size (shape L) e E size v n xs := by
  obtain ⟨h1, h2⟩ := h
  refine ⟨h1, ?_⟩
  rcases h2 with h2 | ⟨g, cap, cur, hv, hg, he, r⟩
  · exact .inl h2
  · have eg : at' w.heap.size (shape L) (g - sz w.heap.size (shape L)) = g := by unfold at'; omega
    rw [← eg, wd_block_in w L k _ _ _ e rfl rfl] at he
    exact .inr ⟨_, cap, cur, by rw [eg]; exact hv, (Array.getElem?_eq_some_iff.1 he).1, he, r⟩
theorem grown_piece {w w' : World} {L : List (Array Obj)} {m n : Nat} {e : Array Obj} {row : Option Nat} (hg : (wd w (e :: L) n).grownBy w' row) (hr : ∀ k, row = some k → sz w.heap.size (shape L) ≤ k) : ∃ m' : Ext, w' = wd w (m'.e :: L) m'.n := by
  have hb : Below (wd w L n).heap.size (wd w L n) w' := by
    refine ⟨hg.os, hg.tape, hg.output, ?_, fun k hk => ?_⟩
    · have := hg.size; rw [wd_size, shape_cons] at this; rw [wd_size]; simp only [sz] at this; omega
    · rw [wd_size] at hk
      rw [hg.block k (by rw [wd_size, shape_cons]; simp only [sz]; omega) (fun h => by have := hr k h.symm; omega)]
      show (hp w.heap L ++ e)[k]? = (hp w.heap L)[k]?
      rw [Array.getElem?_append, if_pos (by rw [hp_size]; exact hk)]
  obtain ⟨x, k, rfl⟩ := more_of_below hb
  exact ⟨⟨x, k⟩, rfl⟩
theorem wp_append_row {P : Program} {ops : Array Oper} {rest : List Oper} {o : Oper} {a : Act} {Q : Exit → Act → World → Prop} (hgd : o.guard = none) (s x : Operand) (t : TypeId)
    (ho : o.op = .call { callee := .builtin .append, args := #[s, x], argTypes := #[t, t] })
    (e : TypeId) (i : TypeInfo) (z : Value) (size bytes : Nat) (ht : P.underlying t = some (.slice e)) (hi : P.info? e = some i) (hz : i.zero = some z)
    (hsize : i.size = size) (hby : i.bytes = bytes) (hzs : z.cells.size = size) (hsz : 0 < size)
    {w : World} {L : List (Array Obj)} {n : Nat} {m : Array Obj} (v : Value) (k : Nat) (xs : List Value) (hs : a.eval s = v) (hrow : rowIn w.heap.size (shape L) m e size v k xs)
    (C : Array Value) (t' : TypeId) (q c : Nat) (hx : a.eval x = .slice (some ⟨sz w.heap.size (m.size :: shape L), 0, none⟩) q c) (hl : C.size = q * size) (h1 : ∀ u ∈ C.toList, u.oneCell' = true)
    (h63 : k + q ≤ maxLen) (hbytes : (k + q) * bytes ≤ 140737488355328)
    (h : ∀ (v' : Value) (m' : Ext), rowIn w.heap.size (shape L) m'.e e size v' (k + q) (xs ++ C.toList) → wpList P ops Q rest (a.put o.dst v') (wd w (m'.e :: L) m'.n)) :
    wpList P ops Q (o :: rest) a (wd w (#[.cells C t'] :: m :: L) n) := by
  rw [wd_merge]
  have hown := owns_of_row (k := n) (rowIn_more hrow #[.cells C t'])
  refine wpList_append_own _ hgd s x t ho (sz w.heap.size (shape L)) e i z size bytes ht hi hz hsize hby hzs hsz v k xs hs hown _ q c C.toList hx (by simpa using hl) (fun j u hu => ?_) h1 h63 hbytes (by rw [wd_size, shape_cons]; simp only [sz]; omega) ?_
  · rw [← wd_merge]
    have e1 : ((⟨sz w.heap.size (m.size :: shape L), 0, none⟩ : Addr).add j) = ⟨sz w.heap.size (m.size :: shape L), j, none⟩ := by
      unfold Addr.add; split <;> simp_all
    rw [e1, wd_cell w (m :: L) n w.heap.size j (m.size :: shape L) C t' (0, 0) rfl rfl]
    simpa using hu
  · intro v' w' hown' hg _
    have hr : ∀ k, v.ownBlock = some k → sz w.heap.size (shape L) ≤ k := fun k hk => by
      rcases hrow.2 with ⟨rfl, _⟩ | ⟨j, cap, cur, rfl, _⟩
      · simp [Value.ownBlock] at hk
      · simp only [Value.ownBlock, Option.some.injEq] at hk; unfold at' at hk; omega
    obtain ⟨m', rfl⟩ := grown_piece (m := 0) hg hr
    exact h v' m' (row_of_owns hown')
theorem own : ownKnob Tryz.prog.godebug = none := by kernel_rfl
theorem laidOut : laidOutB Tryz.prog = true := by kernel_rfl
def Rd (P : Program) (w : World) (t : TypeId) (cs : List Value) : Prop := ∃ (H : Type) (enc : TypeId × Value → H) (fuel : Nat) (x : DataW H × List MemPlace), DataW.trod enc P w 0 (fun _ => true) true fuel t cs = some x
section
variable {P : Program} {w : World} {t e : TypeId} {cs : List Value}
theorem Rd.bool (ht : P.underlying t = some .bool) (h : Rd P w t cs) : ∃ b, cs = [.bool b] := by
  obtain ⟨H, enc, fuel, x, h⟩ := h
  obtain ⟨b, h1, _⟩ := DataW.trod_bool ht h
  exact ⟨b, h1⟩
theorem Rd.int {k : IntKind} (ht : P.underlying t = some (.int k)) (h : Rd P w t cs) : ∃ n, cs = [.int k n] ∧ (Lit.int k n).wf = true := by
  obtain ⟨H, enc, fuel, x, h⟩ := h
  obtain ⟨n, h1, _, h2⟩ := DataW.trod_int ht h
  exact ⟨n, h1, h2⟩
theorem Rd.string (ht : P.underlying t = some .string) (h : Rd P w t cs) : ∃ s : ByteArray, cs = [.string s] ∧ s.size ≤ maxLen := by
  obtain ⟨H, enc, fuel, x, h⟩ := h
  obtain ⟨s, h1, _, h2⟩ := DataW.trod_string ht h
  exact ⟨s, h1, h2⟩
theorem Rd.struct {fs : Array Field} (ht : P.underlying t = some (.struct fs)) (h : Rd P w t cs) :
    cs.length = P.cellsOf t ∧ ∀ (i : Nat) (f : Field), fs[i]? = some f → Rd P w f.type ((cs.drop f.offset).take (P.cellsOf f.type)) := by
  obtain ⟨H, enc, fuel, x, h⟩ := h
  obtain ⟨xs, n, _, _, h1, h2, h3⟩ := DataW.trod_struct ht h
  refine ⟨h1, fun i f hf => ?_⟩
  have hi : i < xs.length := by rw [h2]; exact (Array.getElem?_eq_some_iff.1 hf).1
  exact ⟨H, enc, n, xs[i], by rw [h3 i f hf]; exact List.getElem?_eq_getElem hi⟩
theorem Rd.array {n : Nat} (ht : P.underlying t = some (.array n e)) (h : Rd P w t cs) :
    cs.length = P.cellsOf t ∧ ∀ i, i < n → Rd P w e ((cs.drop (i * P.cellsOf e)).take (P.cellsOf e)) := by
  obtain ⟨H, enc, fuel, x, h⟩ := h
  obtain ⟨xs, m, _, _, h1, h2, h3⟩ := DataW.trod_array ht h
  refine ⟨h1, fun i hi => ?_⟩
  exact ⟨H, enc, m, xs[i], by rw [h3 i hi]; exact List.getElem?_eq_getElem (by omega)⟩
theorem Rd.slice (ht : P.underlying t = some (.slice e)) (hz : P.cellsOf e ≠ 0) (h : Rd P w t cs) :
    (∃ a cap, cs = [.slice a 0 cap] ∧ cap ≤ maxLen) ∨
    ∃ (b off len cap : Nat), cs = [.slice (some ⟨b, off, none⟩) len cap] ∧ 0 < len ∧ len ≤ cap ∧ cap ≤ maxLen ∧ b < w.heap.size ∧
      ∀ i, i < len → ∃ cs', cs'.length = P.cellsOf e ∧ Rd P w e cs' ∧ ∀ j, j < P.cellsOf e → w.cell? ⟨b, off + (i * P.cellsOf e + j), none⟩ = cs'[j]? := by
  obtain ⟨H, enc, fuel, x, h⟩ := h
  rcases DataW.trod_slice ht h with ⟨rfl, _⟩ | ⟨a, len, cap, elems, rest, n, _, rfl, _, hb, hl, hm, hlen, hel, _, _⟩
  · exact .inl ⟨none, 0, rfl, Nat.zero_le _⟩
  by_cases h0 : len = 0
  · subst h0; exact .inl ⟨some a, cap, rfl, hm⟩
  right
  obtain ⟨b, off, spot⟩ := a
  have key : ∀ i, i < len → ∃ cs', cs'.length = P.cellsOf e ∧ Rd P w e cs' ∧ ∀ j, j < P.cellsOf e → w.cell? (((⟨b, off, spot⟩ : Addr).add (i * P.cellsOf e)).add j) = cs'[j]? := fun i hi => by
    have h1 := hel i hi
    rw [List.getElem?_eq_getElem (by omega)] at h1
    obtain ⟨cs', h2, h3⟩ := Option.bind_eq_some_iff.1 h1
    obtain ⟨_, h4, h5⟩ := World.cells?_some h2
    exact ⟨cs', h4, ⟨H, enc, n, _, h3⟩, h5⟩
  · have hsp : spot = none := by
      obtain ⟨cs', h4, _, h5⟩ := key 0 (by omega)
      have h6 := h5 0 (by omega)
      rw [List.getElem?_eq_getElem (by omega)] at h6
      have h7 : w.cell? ⟨b, off, spot⟩ = some cs'[0] := by simpa [Addr.add] using h6
      simpa using World.cell?_spot h7
    subst hsp
    have eadd : ∀ i j, ((⟨b, off, none⟩ : Addr).add (i * P.cellsOf e)).add j = ⟨b, off + (i * P.cellsOf e + j), none⟩ := fun i j => by
      unfold Addr.add
      split <;> split <;> simp_all [Nat.add_assoc]
    refine ⟨b, off, len, cap, rfl, by omega, hl, hm, ?_, fun i hi => ?_⟩
    · obtain ⟨cs', h4, _, h5⟩ := key 0 (by omega)
      have h6 := h5 0 (by omega)
      rw [List.getElem?_eq_getElem (by omega), eadd] at h6
      exact World.block_lt_of_cell? w _ h6
    · obtain ⟨cs', h4, hr, h5⟩ := key i hi
      exact ⟨cs', h4, hr, fun j hj => by rw [← eadd]; exact h5 j hj⟩
end
end Go.Proofs.YtifoekadjnlhcaaGreatDoor
namespace Go.Proofs.YtifoekadjnlhcaaGreatDoor
open Go.ChangeShapes Go.WideShapes Go.ChangeAt Go.RowKit
set_option linter.unusedVariables false
set_option linter.unusedSimpArgs false
def RdRow (w : World) (size : Nat) (v : Value) (n : Nat) (xs : List Value) : Prop :=
  xs.length = n * size ∧ ((n = 0 ∧ ∃ a cap, v = .slice a 0 cap) ∨ ∃ b off cap, v = .slice (some ⟨b, off, none⟩) n cap ∧ b < w.heap.size ∧ ∀ i, i < n * size → w.cell? ⟨b, off + i, none⟩ = xs[i]?)
theorem RdRow.more {w w' : World} {size : Nat} {v : Value} {n : Nat} {xs : List Value} (h : RdRow w size v n xs) (hm : More w w') : RdRow w' size v n xs := by
  obtain ⟨h1, h2⟩ := h
  refine ⟨h1, ?_⟩
  rcases h2 with h2 | ⟨b, off, cap, hv, hb, hc⟩
  · exact .inl h2
  · have bel := hm.below
    exact .inr ⟨b, off, cap, hv, Nat.lt_of_lt_of_le hb bel.size, fun i hi => by rw [bel.cell hb]; exact hc i hi⟩
theorem flat_at {α : Type} (cells : α → List Value) (size : Nat) (hs : ∀ x, (cells x).length = size) : ∀ (l : List α) (k : Nat) (x : α) (j : Nat), l[k]? = some x → j < size → (l.flatMap cells)[k * size + j]? = (cells x)[j]?
  | [], k, x, j, h, _ => by simp at h
  | a :: l, 0, x, j, h, hj => by
    simp at h; subst h
    rw [List.flatMap_cons, Nat.zero_mul, Nat.zero_add, List.getElem?_append_left (by rw [hs]; exact hj)]
  | a :: l, k + 1, x, j, h, hj => by
    rw [List.flatMap_cons, List.getElem?_append_right (by rw [hs, Nat.succ_mul]; omega), hs, show (k + 1) * size + j - size = k * size + j by rw [Nat.succ_mul]; omega]
    exact flat_at cells size hs l k x j (by simpa using h) hj
theorem flat_len {α : Type} (cells : α → List Value) (size : Nat) (hs : ∀ x, (cells x).length = size) (l : List α) : (l.flatMap cells).length = l.length * size := by
  induction l with
  | nil => simp
  | cons a l ih => rw [List.flatMap_cons, List.length_append, hs, ih, List.length_cons, Nat.succ_mul]; omega
theorem more_same (w : World) (M : List (Array Obj)) (k n : Nat) : More (wd w M k) (wd w M n) := ⟨#[], n, world_ext (Array.append_empty).symm rfl rfl rfl rfl⟩
theorem more_cons {W w : World} {M : List (Array Obj)} {p : Array Obj} {n : Nat} (h : More W (wd w M n)) : More W (wd w (p :: M) n) := h.onto p n
theorem div_split (i : Nat) : ∀ size, 0 < size → i = (i / size) * size + i % size := fun size h => by rw [Nat.mul_comm]; exact (Nat.div_add_mod i size).symm
theorem rdrow_of_fn {α : Type} (cells : α → List Value) (size : Nat) (hs : ∀ x, (cells x).length = size) (hpos : 0 < size) {w : World} {b off len cap : Nat} (f : Nat → α) (hb : b < w.heap.size)
    (h : ∀ k, k < len → ∀ j, j < size → w.cell? ⟨b, off + (k * size + j), none⟩ = (cells (f k))[j]?) :
    RdRow w size (.slice (some ⟨b, off, none⟩) len cap) ((List.range len).map f).length (((List.range len).map f).flatMap cells) := by
  have hl : ((List.range len).map f).length = len := by simp
  refine ⟨flat_len cells size hs _, .inr ⟨b, off, cap, by rw [hl], hb, fun i hi => ?_⟩⟩
  rw [hl] at hi
  have hk : i / size < len := by rw [Nat.div_lt_iff_lt_mul hpos]; exact hi
  have hj : i % size < size := Nat.mod_lt _ hpos
  have h1 := h (i / size) hk (i % size) hj
  have h2 := flat_at cells size hs ((List.range len).map f) (i / size) (f (i / size)) (i % size) (by simp [hk]) hj
  rw [← div_split i size hpos] at h1 h2
  rw [h1, h2]
theorem Rd.one_int {P : Program} {w : World} {t : TypeId} {k : IntKind} {v : Value} (ht : P.underlying t = some (.int k)) {r : Reach} {b : Nat} (hk : Value.okWide P w r b t v) (h : Rd P w t v.cells.toList) : ∃ n, v = .int k n ∧ (Lit.int k n).wf = true := by
  obtain ⟨n, h1, h2⟩ := h.int ht
  refine ⟨n, ?_, h2⟩
  simp only [Value.okWide, ht, Cell.okWide] at hk
  cases v <;> simp_all [Cell.ok, Value.cells]
theorem row_base {B : Nat} {S : List Nat} {e : Array Obj} {E : TypeId} {size : Nat} {v : Value} {n : Nat} {xs : List Value} (h : rowIn (sz B S) [] e E size v n xs) : rowIn B S e E size v n xs := h
structure Made (w w' : World) (E : TypeId) (size : Nat) (v : Value) (n : Nat) (xs : List Value) : Prop where
  out : ∃ m : Ext, w' = plus w m.e m.n ∧ rowIn w.heap.size [] m.e E size v n xs
theorem Made.more {w w' : World} {E : TypeId} {size : Nat} {v : Value} {n : Nat} {xs : List Value} (h : Made w w' E size v n xs) : More w w' := by
  obtain ⟨m, rfl, _⟩ := h.out; exact ⟨_, _, rfl⟩
theorem Made.wd {w w' : World} {L : List (Array Obj)} {k : Nat} {E : TypeId} {size : Nat} {v : Value} {n : Nat} {xs : List Value} (h : Made (wd w L k) w' E size v n xs) : ∃ m : Ext, w' = Go.Proofs.YtifoekadjnlhcaaGreatDoor.wd w (m.e :: L) m.n ∧ rowIn w.heap.size (shape L) m.e E size v n xs := by
  obtain ⟨m, rfl, hr⟩ := h.out
  refine ⟨m, rfl, ?_⟩
  rw [wd_size] at hr
  exact row_base hr
theorem addr_add0 (b j : Nat) : ((⟨b, 0, none⟩ : Addr).add j) = ⟨b, j, none⟩ := by unfold Addr.add; split <;> simp_all
theorem addr_add (b o j : Nat) : ((⟨b, o, none⟩ : Addr).add j) = ⟨b, o + j, none⟩ := by unfold Addr.add; split <;> simp_all
def RB (w : World) (v : Value) (l : List UInt8) : Prop :=
  ∃ a cap, v = .slice a l.length cap ∧ l.length ≤ cap ∧ cap ≤ maxLen ∧ (l ≠ [] → ∃ b off, a = some ⟨b, off, none⟩ ∧ b < w.heap.size ∧ ∀ i, i < l.length → w.cell? ⟨b, off + i, none⟩ = (Lib.byteCells l)[i]?)
theorem bc_len (l : List UInt8) : (Lib.byteCells l).length = l.length := Lib.byteCells_length l
theorem bc_get (l : List UInt8) (i : Nat) : (Lib.byteCells l)[i]? = l[i]?.map fun b => Value.int .u8 b.toNat := by simp [Lib.byteCells]
theorem RB.more {w w' : World} {v : Value} {l : List UInt8} (h : RB w v l) (hm : More w w') : RB w' v l := by
  obtain ⟨a, cap, hv, h1, h2, h3⟩ := h
  refine ⟨a, cap, hv, h1, h2, fun hne => ?_⟩
  obtain ⟨b, off, ha, hb, hc⟩ := h3 hne
  have bel := hm.below
  exact ⟨b, off, ha, Nat.lt_of_lt_of_le hb bel.size, fun i hi => by rw [bel.cell hb]; exact hc i hi⟩
theorem RB.rd {w : World} {v : Value} {l : List UInt8} (h : RB w v l) : RdRow w 1 v l.length (Lib.byteCells l) := by
  obtain ⟨a, cap, hv, h1, h2, h3⟩ := h
  refine ⟨by rw [bc_len, Nat.mul_one], ?_⟩
  by_cases hne : l = []
  · subst hne; exact .inl ⟨rfl, a, cap, hv⟩
  · obtain ⟨b, off, rfl, hb, hc⟩ := h3 hne
    exact .inr ⟨b, off, cap, hv, hb, fun i hi => hc i (by omega)⟩
theorem RB.of_block {w : World} {b : Nat} {C : Array Value} {t : TypeId} {fr : Nat × Nat} (hb : w.heap[b]? = some (.cells C t fr)) (l : List UInt8) (cap : Nat) (hcap : l.length ≤ cap) (hm : cap ≤ maxLen) (hC : ∀ i, i < l.length → C[i]? = (Lib.byteCells l)[i]?) : RB w (.slice (some ⟨b, 0, none⟩) l.length cap) l := by
  refine ⟨_, cap, rfl, hcap, hm, fun _ => ⟨b, 0, rfl, (Array.getElem?_eq_some_iff.1 hb).1, fun i hi => ?_⟩⟩
  rw [Nat.zero_add, ← hC i hi]
  simp [World.cell?, hb]
theorem RB.nil (w : World) : RB w (.slice none 0 0) [] := ⟨none, 0, rfl, Nat.le_refl _, Nat.zero_le _, fun h => absurd rfl h⟩
def str (l : List UInt8) : ByteArray := ⟨l.toArray⟩
theorem str_data (l : List UInt8) : (str l).data.toList = l := rfl
theorem str_size (l : List UInt8) : (str l).size = l.length := by show l.toArray.size = _; simp
theorem str_of (s : ByteArray) : str s.data.toList = s := rfl
theorem RB.run_str {P : Program} {w : World} {v : Value} {l : List UInt8} (h : RB w v l) (src dst e : TypeId) (hs : P.underlying src = some (.slice e)) (he : P.underlying e = some (.int .u8)) (hd : P.underlying dst = some .string) :
    (convert src dst v).run P w = .ok (.string (str l)) w := by
  obtain ⟨a, cap, rfl, h1, h2, h3⟩ := h
  by_cases hne : l = []
  · subst hne
    cases a with
    | none => exact (run_convert_bytes_string w src dst e none 0 cap hs he hd).trans (by simp [Conv.bytesToString]; rfl)
    | some ad => exact run_convert_bytes_back w src dst e ad cap [] hs he hd (fun j hj => by simp at hj)
  · obtain ⟨b, off, rfl, hb, hc⟩ := h3 hne
    refine run_convert_bytes_back w src dst e ⟨b, off, none⟩ cap l hs he hd fun j hj => ?_
    rw [addr_add, hc j hj, bc_get, List.getElem?_eq_getElem hj]
    rfl
def dropS (a : Option Addr) (len cap k : Nat) : Value := .slice (if cap = k then a else a.map (·.add (k * 1))) (len - k) (cap - k)
def dropV : Value → Nat → Value
  | .slice a len cap, k => dropS a len cap k
  | v, _ => v
def takeV : Value → Nat → Value
  | .slice a _ cap, k => .slice a k cap
  | v, _ => v
theorem RB.drop {w : World} {v : Value} {l : List UInt8} (h : RB w v l) (k : Nat) (hk : k ≤ l.length) : RB w (dropV v k) (l.drop k) := by
  obtain ⟨a, cap, rfl, h1, h2, h3⟩ := h
  refine ⟨_, cap - k, by rw [List.length_drop]; rfl, by rw [List.length_drop]; omega, by omega, fun hne => ?_⟩
  have hk' : k < l.length := by
    rcases Nat.lt_or_ge k l.length with h | h
    · exact h
    · exact absurd (List.drop_eq_nil_of_le h) hne
  obtain ⟨b, off, rfl, hb, hc⟩ := h3 (by intro h; subst h; simp at hk')
  refine ⟨b, off + k, ?_, hb, fun i hi => ?_⟩
  · rw [if_neg (by omega)]; simp [addr_add]
  · rw [List.length_drop] at hi
    rw [Nat.add_assoc, hc (k + i) (by omega), bc_get, bc_get, List.getElem?_drop]
theorem RB.take {w : World} {v : Value} {l : List UInt8} (h : RB w v l) (k : Nat) (hk : k ≤ l.length) : RB w (takeV v k) (l.take k) := by
  obtain ⟨a, cap, rfl, h1, h2, h3⟩ := h
  have hl : (l.take k).length = k := by rw [List.length_take]; omega
  refine ⟨a, cap, by rw [hl]; rfl, by omega, h2, fun hne => ?_⟩
  obtain ⟨b, off, rfl, hb, hc⟩ := h3 (by intro h; subst h; simp at hne)
  refine ⟨b, off, rfl, hb, fun i hi => ?_⟩
  rw [hl] at hi
  rw [hc i (by omega), bc_get, bc_get, List.getElem?_take, if_pos hi]
end Go.Proofs.YtifoekadjnlhcaaGreatDoor
namespace Go.Proofs.YtifoekadjnlhcaaGreatDoor
open Go.RowKit
set_option linter.unusedVariables false
set_option linter.unusedSimpArgs false
theorem put_val {a : Act} {d : Option Tmp} {v v' : Value} (h : d.isSome = true → v = v') : a.put d v = a.put d v' := by
  cases d with
  | none => rfl
  | some d => rw [h rfl]
section
variable {P : Program} {ops : Array Oper} {md : Region.Mode} {σ : Type} {Cl : σ → World → Prop} {vs : Nat → Value} {isN isL : Nat → Bool} {S' : Nat → σ → σ → Prop} {g : Nat → σ → Value} {Q' : Exit → Act → World → Prop}
def qop (P : Program) (ops : Array Oper) (Cl : σ → World → Prop) (vs : Nat → Value) (j : Nat) (o : Oper) (a : Act) : Prop :=
  (Region.wanted o (yielded ops a.tmps) = true ∧ ∀ s, ∃ v, (o.dst.isSome = true → v = vs j) ∧ ∀ w, Cl s w → o.quietAt P a (Cl s) w v) ∨
  (Region.wanted o (yielded ops a.tmps) = false ∧ (o.dst.isSome = true → undef = vs j))
def newop (P : Program) (ops : Array Oper) (Cl : σ → World → Prop) (S' : Nat → σ → σ → Prop) (g : Nat → σ → Value) (i : Nat) (o : Oper) (a : Act) : Prop :=
  Region.wanted o (yielded ops a.tmps) = true ∧ ∀ s w, Cl s w → ∃ s' w', S' i s s' ∧ (execOp a.eval o).run P w = .ok (.value (g i s')) w' ∧ Cl s' w'
theorem qop_put {j : Nat} {oi oj : Oper} (hap : oi.apart ops oj = true) (hsi : ∀ cs b, oi.op ≠ .select cs b) {a : Act} (i : Nat) (u : Value) : qop P ops Cl vs i oi (a.put oj.dst u) ↔ qop P ops Cl vs i oi a := by
  obtain ⟨h1, h2, h3⟩ := Oper.apart_spec hap
  unfold qop Oper.quietAt
  rw [wanted_put oi a oj.dst u h3, execOp_put oi hsi a oj.dst u h3]
def copies (o : Oper) : Bool := o.dst.isSome && match o.op with | .move _ | .assign _ | .extract _ _ => true | _ => false
structure Shut' (md : Region.Mode) (ops : Array Oper) (listed : Array Bool) : Prop where
  size : listed.size = ops.size
  closed : ∀ j oj, ops[j]? = some oj → listed.getD j false = true → ∀ e ∈ oj.after, Region.binds md e = true → listed.getD e.on false = true
theorem Shut'.set {i : Nat} {listed : Array Bool} (inv : Shut' md ops listed) (hi : i ∈ Region.ready md ops listed) : Shut' md ops (listed.setIfInBounds i true) := by
  obtain ⟨_, oi, hoi, hall⟩ := mem_ready.1 hi
  refine ⟨by simp [inv.size], fun j oj hj hl e he hb => ?_⟩
  by_cases hij : i = j
  · subst hij
    have : oj = oi := Option.some.inj (hj.symm.trans hoi)
    subst this
    exact getD_set_true (hall e he hb)
  · rw [getD_set_ne false hij] at hl
    exact getD_set_true (inv.closed j oj hj hl e he hb)
def dep (md : Region.Mode) (ops : Array Oper) : Nat → Nat → Nat → Bool
  | 0, _, _ => false
  | f + 1, j, i => match ops[j]? with
    | some oj => oj.after.any fun e => Region.binds md e && (e.on == i || dep md ops f e.on i)
    | none => false
def mOp (P : Program) (ops : Array Oper) (Cl : σ → World → Prop) (vs : Nat → Value) (isN isL : Nat → Bool) (S' : Nat → σ → σ → Prop) (g : Nat → σ → Value) (Q' : Exit → Act → World → Prop) (i : Nat) (K : σ → Act → Prop) (KL : Act → World → Prop) (s : σ) (a : Act) : Prop :=
  ∃ o, ops[i]? = some o ∧ (isN i = false → isL i = false → qop P ops Cl vs i o a ∧ K s (a.put o.dst (vs i))) ∧
    (isN i = true → newop P ops Cl S' g i o a ∧ ∀ s', S' i s s' → K s' (a.put o.dst (g i s'))) ∧ (isN i = false → isL i = true → ∀ w, Cl s w → wpOp P ops Q' i KL a w)
def wpAnyM (P : Program) (md : Region.Mode) (ops : Array Oper) (Cl : σ → World → Prop) (vs : Nat → Value) (isN isL : Nat → Bool) (S' : Nat → σ → σ → Prop) (g : Nat → σ → Value) (Q' : Exit → Act → World → Prop) : Nat → Array Bool → σ → Act → Prop
  | 0, listed, s, a => Region.ready md ops listed = [] ∧ ∀ w, Cl s w → Q' .normal a w
  | f + 1, listed, s, a => (Region.ready md ops listed = [] → ∀ w, Cl s w → Q' .normal a w) ∧
    ∀ i ∈ Region.ready md ops listed, mOp P ops Cl vs isN isL S' g Q' i (wpAnyM P md ops Cl vs isN isL S' g Q' f (listed.setIfInBounds i true)) (wpAny P md ops Q' f (listed.setIfInBounds i true)) s a
def before' (md : Region.Mode) (ops : Array Oper) (isN isL : Nat → Bool) (i : Nat) : Bool := (List.range ops.size).all fun j => isN j || !isL j || dep md ops ops.size j i
def wpOrd (P : Program) (ops : Array Oper) (Cl : σ → World → Prop) (vs : Nat → Value) (Z : Act → Prop) : List Nat → Act → Prop
  | [], a => Z a
  | i :: rest, a => ∃ o, ops[i]? = some o ∧ qop P ops Cl vs i o a ∧ wpOrd P ops Cl vs Z rest (a.put o.dst (vs i))
def wpNews (P : Program) (ops : Array Oper) (Cl : σ → World → Prop) (S' : Nat → σ → σ → Prop) (g : Nat → σ → Value) (Z : σ → Act → Prop) : List Nat → σ → Act → Prop
  | [], s, a => Z s a
  | i :: rest, s, a => ∃ o, ops[i]? = some o ∧ newop P ops Cl S' g i o a ∧ ∀ s', S' i s s' → wpNews P ops Cl S' g Z rest s' (a.put o.dst (g i s'))
def ordB (md : Region.Mode) (ops : Array Oper) (isN isL : Nat → Bool) (E : Array Bool → Bool) : List Nat → Array Bool → Bool
  | [], listed => (Region.ready md ops listed).all (fun j => !isN j && isL j) && E listed
  | i :: rest, listed => (isN i || !isL i) && ((!isN i && match ops[i]? with | some o => copies o | none => false) || before' md ops isN isL i) && (Region.ready md ops listed).contains i && Region.free md ops listed i && ordB md ops isN isL E rest (listed.setIfInBounds i true)
end
theorem put_slot (a : Act) (d : Tmp) (v : Value) (h : d < a.tmps.size) : (a.put (some d) v).tmps.getD d undef = v := by
  simp [Act.put, h]
theorem put_other (a : Act) (x : Option Tmp) (d : Tmp) (v : Value) (h : x ≠ some d) : (a.put x v).tmps.getD d undef = a.tmps.getD d undef := by
  cases x with
  | none => rfl
  | some e =>
    have : e ≠ d := fun h' => h (by rw [h'])
    simp [Act.put, Array.getElem?_setIfInBounds_ne this]
theorem put_size (a : Act) (x : Option Tmp) (v : Value) : (a.put x v).tmps.size = a.tmps.size := by cases x <;> simp [Act.put]
theorem quiet_slot {P : Program} {ops : Array Oper} {C : World → Prop} {aE : Act} {d : Tmp} : ∀ (l : List Oper) (a : Act), (∀ o ∈ l, o.dst ≠ some d) → wpQuiet P ops C (fun a' => a' = aE) l a → aE.tmps.getD d undef = a.tmps.getD d undef
  | [], a, _, h => by have h' : a = aE := h; rw [h']
  | o :: l, a, hd, h => by
    unfold wpQuiet at h
    split at h
    · obtain ⟨v, _, h⟩ := h
      rw [quiet_slot l _ (fun o' ho' => hd o' (by simp [ho'])) h, put_other _ _ _ _ (hd o (by simp))]
    · rw [quiet_slot l _ (fun o' ho' => hd o' (by simp [ho'])) h, put_other _ _ _ _ (hd o (by simp))]
def dstB (m : Nat) : List Oper → Bool
  | [] => true
  | o :: l => (match o.dst with | some d => decide (d < m) && l.all fun o' => o'.dst != some d | none => true) && dstB m l
def slotOf (ops : Array Oper) (aE : Act) (j : Nat) : Value := match (ops[j]?).bind (·.dst) with | some d => aE.tmps.getD d undef | none => undef
theorem ord_of_quiet {P : Program} {ops : Array Oper} {σ : Type} {Cl : σ → World → Prop} (s1 : σ) {Z : Act → Prop} {aE : Act} (hZ : Z aE) : ∀ (qs : List Nat) (l : List Oper) (a : Act), qs.map (fun i => ops[i]?) = l.map some → dstB a.tmps.size l = true →
    (∀ s, wpQuiet P ops (Cl s) (fun a' => a' = aE) l a) → wpOrd P ops Cl (slotOf ops aE) Z qs a
  | [], [], a, _, _, h => by have h' : a = aE := h s1; rw [wpOrd, h']; exact hZ
  | [], _ :: _, _, hm, _, _ => by simp at hm
  | _ :: _, [], _, hm, _, _ => by simp at hm
  | i :: qs, o :: l, a, hm, hd, h => by
    simp only [List.map_cons, List.cons.injEq] at hm
    simp only [dstB, Bool.and_eq_true] at hd
    obtain ⟨hd1, hd2⟩ := hd
    have slot : ∀ (s : σ) (v : Value), wpQuiet P ops (Cl s) (fun a' => a' = aE) l (a.put o.dst v) → o.dst.isSome = true → v = slotOf ops aE i := fun s v hq hs => by
      cases hdst : o.dst with
      | none => rw [hdst] at hs; cases hs
      | some d =>
        rw [hdst] at hd1 hq
        simp only [Bool.and_eq_true, decide_eq_true_eq, List.all_eq_true, bne_iff_ne] at hd1
        have h1 := quiet_slot l _ (fun o' ho' => hd1.2 o' ho') hq
        rw [put_slot _ _ _ hd1.1] at h1
        unfold slotOf
        rw [hm.1]
        simp only [Option.bind_some, hdst]
        exact h1.symm
    refine ⟨o, hm.1, ?_, ?_⟩
    · by_cases hw : Region.wanted o (yielded ops a.tmps) = true
      · refine .inl ⟨hw, fun s => ?_⟩
        have hs := h s
        unfold wpQuiet at hs
        simp only [hw, if_true] at hs
        obtain ⟨v, hv, hr⟩ := hs
        exact ⟨v, slot s v hr, hv⟩
      · have hw' : Region.wanted o (yielded ops a.tmps) = false := by simpa using hw
        refine .inr ⟨hw', fun hs => ?_⟩
        have hr := h s1
        unfold wpQuiet at hr
        simp only [hw', Bool.false_eq_true, if_false] at hr
        exact slot s1 undef hr hs
    · refine ord_of_quiet s1 hZ qs l _ hm.2 (by rw [put_size]; exact hd2) fun s => ?_
      have hs := h s
      unfold wpQuiet at hs
      split at hs
      · obtain ⟨v, hv, hr⟩ := hs
        rw [← put_val (slot s v hr)]; exact hr
      · rw [← put_val (slot s undef hs)]; exact hs
def pickl (l : List Oper) (qs : List Nat) : List Oper := qs.filterMap fun i => l[i]?
def sel : List Bool → List Oper → List Oper
  | true :: b, o :: l => o :: sel b l
  | false :: b, _ :: l => sel b l
  | _, _ => []
theorem sel_t (b : List Bool) (o : Oper) (l : List Oper) : sel (true :: b) (o :: l) = o :: sel b l := by rw [sel]
theorem sel_f (b : List Bool) (o : Oper) (l : List Oper) : sel (false :: b) (o :: l) = sel b l := by rw [sel]
theorem sel_n (l : List Oper) : sel [] l = [] := by rw [sel]; all_goals intros; simp_all
def seqT (md : Region.Mode) (ops : Array Oper) : List Nat → Array Bool → Bool
  | [], listed => (Region.ready md ops listed).isEmpty
  | t :: ts, listed => decide (Region.ready md ops listed = [t]) && seqT md ops ts (listed.setIfInBounds t true)
theorem pick_map (l : List Oper) : ∀ (qs : List Nat), qs.all (fun i => decide (i < l.length)) = true → qs.map (fun i => l.toArray[i]?) = (pickl l qs).map some
  | [], _ => rfl
  | i :: qs, h => by
    simp only [List.all_cons, Bool.and_eq_true, decide_eq_true_eq] at h
    have hi : l[i]? = some l[i] := List.getElem?_eq_getElem h.1
    have ih := pick_map l qs h.2
    unfold pickl at ih ⊢
    rw [List.filterMap_cons, hi]
    simp only [List.getElem?_toArray] at ih
    simp only [List.map_cons, List.getElem?_toArray, hi, ih]
def regB (l : List Oper) (qs ns ts : List Nat) (m : Nat) : Bool :=
  Region.noSelect l.toArray && ordB .any l.toArray (fun i => ns.contains i) (fun i => ts.contains i) (seqT .any l.toArray ts) (qs ++ ns) (Array.replicate l.toArray.size false) &&
    dstB m (pickl l qs) && decide (qs.length + (ns.length + ts.length) = l.length) && qs.all (fun i => !ns.contains i) && qs.all (fun i => decide (i < l.length))
end Go.Proofs.YtifoekadjnlhcaaGreatDoor
namespace Go.Proofs.YtifoekadjnlhcaaGreatDoor
open Go.RowKit
set_option linter.unusedVariables false
set_option linter.unusedSimpArgs false
section
variable {P : Program} {ops : Array Oper} {md : Region.Mode} {σ : Type} {Cl : σ → World → Prop} {C : World → Prop} {vs : Nat → Value} {Q' : Exit → Act → World → Prop}
def wpAnyC (P : Program) (md : Region.Mode) (ops : Array Oper) (C : World → Prop) (Q' : Exit → Act → World → Prop) : Nat → Array Bool → Act → World → Prop
  | 0, listed, a, w => Region.ready md ops listed = [] ∧ Q' .normal a w
  | f + 1, listed, a, w => (Region.ready md ops listed = [] → Q' .normal a w) ∧ ∀ i ∈ Region.ready md ops listed, wpOp P ops Q' i (fun a' w' => C w' ∧ wpAnyC P md ops C Q' f (listed.setIfInBounds i true) a' w') a w
theorem wpAny_of_C : ∀ (f : Nat) (listed : Array Bool) (a : Act) (w : World), wpAnyC P md ops C Q' f listed a w → wpAny P md ops Q' f listed a w
  | 0, _, _, _, h => h
  | f + 1, _, _, _, h => ⟨h.1, fun i hi => wpOp_mono (fun a' w' h' => wpAny_of_C f _ a' w' h'.2) (h.2 i hi)⟩
theorem qop_wpOp {i : Nat} {o : Oper} {a : Act} {w : World} {s : σ} {K : Act → World → Prop} (ho : ops[i]? = some o) (hw : Cl s w) (hs : ∀ s w w', Cl s w → Cl s w' → w = w') (hq : qop P ops Cl vs i o a) (hK : K (a.put o.dst (vs i)) w) : wpOp P ops Q' i K a w := by
  refine wpOp_of_qOp (C := Cl s) (K := fun a' => K a' w) hw (fun a' w' hw' h' => by rw [hs s w' w hw' hw]; exact h') ?_
  unfold qOp
  simp only [ho]
  rcases hq with ⟨hwant, hv⟩ | ⟨hwant, hv⟩
  · simp only [hwant, if_true]
    obtain ⟨v, hvv, hall⟩ := hv s
    exact ⟨v, hall, by rw [put_val hvv]; exact hK⟩
  · simp only [hwant, Bool.false_eq_true, if_false]
    rw [put_val hv]; exact hK
theorem wpOp_putC {i j : Nat} {oi oj : Oper} (hj : ops[j]? = some oj) (hap : oi.apart ops oj = true) (hsi : ∀ cs b, oi.op ≠ .select cs b) (hsj : ∀ cs b, oj.op ≠ .select cs b)
    (hQ : ∀ c a w, Q' (.panic c) (a.put oi.dst (vs i)) w → Q' (.panic c) a w) {K : Act → World → Prop} {a : Act} {w : World}
    (hy : qop P ops Cl vs i oi a) (h : wpOp P ops Q' j K (a.put oi.dst (vs i)) w) : wpOp P ops Q' j (fun a' w' => qop P ops Cl vs i oi a' ∧ K (a'.put oi.dst (vs i)) w') a w := by
  obtain ⟨h1, h2, h3⟩ := Oper.apart_spec hap
  have keep : ∀ (a : Act), qop P ops Cl vs i oi a → ∀ u, qop P ops Cl vs i oi (a.put oj.dst u) := fun a hy u => (qop_put (j := j) hap hsi i u).2 hy
  have keepD : ∀ d, qop P ops Cl vs i oi { a with defers := d :: a.defers } := fun d => hy
  unfold wpOp at *
  simp only [hj] at *
  rw [wanted_put oj a oi.dst (vs i) h1] at h
  split
  · rename_i hw
    simp only [hw, if_true] at h
    rcases h with h | ⟨hasks, hlets⟩
    case inr => exact .inr ⟨by unfold Oper.asks at *; rw [execOp_put oj hsj a oi.dst (vs i) h1] at hasks; exact hasks, hlets⟩
    refine .inl ?_
    unfold Oper.wp at *
    rw [execOp_put oj hsj a oi.dst (vs i) h1] at h
    generalize (execOp a.eval oj).run P w = r at *
    cases r with
    | ok n w' =>
      cases n <;> simp only [Oper.upon] at h ⊢
      case value u => exact ⟨keep a hy u, by rw [← Act.put_comm a (vs i) u h2]; exact h⟩
      case skip => exact ⟨keep a hy _, by rw [← Act.put_comm a (vs i) undef h2]; exact h⟩
      case defer d =>
        refine ⟨keep _ (keepD d) _, ?_⟩
        rw [← Act.put_comm _ (vs i) undef h2, ← Act.put_defers]
        exact h
      case enter f args =>
        refine Calls.mono h fun e w'' he => ?_
        cases e with
        | returned u => exact ⟨keep a hy u, by rw [← Act.put_comm a (vs i) u h2]; exact he⟩
        | panicked c => exact hQ _ _ _ he
        | outgrown => exact he
      case row row args => exact Rows.mono h fun u w'' he => ⟨keep a hy u, by rw [← Act.put_comm a (vs i) u h2]; exact he⟩
    | halt x w' =>
      cases x <;> simp only [Oper.upon] at h ⊢
      case panic u => exact hQ _ _ _ h
  · rename_i hw
    simp only [hw] at h
    exact ⟨keep a hy _, by rw [← Act.put_comm a (vs i) undef h2]; exact h⟩
theorem C_first {i : Nat} {oi : Oper} (hi : ops[i]? = some oi) (hsel : ∀ (j : Nat) (o : Oper) cs b, ops[j]? = some o → o.op ≠ .select cs b) (hs : ∀ s w w', Cl s w → Cl s w' → w = w') (hC : ∀ w, C w → ∃ s, Cl s w)
    (hQ : ∀ c a d v w, Q' (.panic c) (a.put d v) w → Q' (.panic c) a w) :
    ∀ (f : Nat) (listed : Array Bool) (a : Act) (w : World), C w →
      (∀ j oj, ops[j]? = some oj → j ≠ i → listed.getD j true = false → (∀ e ∈ oj.after, Region.binds md e = true → e.on ≠ i) → oi.apart ops oj = true) →
      i ∈ Region.ready md ops listed → qop P ops Cl vs i oi a →
      wpAnyC P md ops C Q' f (listed.setIfInBounds i true) (a.put oi.dst (vs i)) w → wpAnyC P md ops C Q' (f + 1) listed a w := by
  intro f
  induction f with
  | zero =>
    intro listed a w hw _ hr hy H
    refine ⟨fun h => (by rw [h] at hr; cases hr), fun j hj => ?_⟩
    by_cases hji : j = i
    · subst hji; obtain ⟨s, hsw⟩ := hC w hw; exact qop_wpOp hi hsw hs hy ⟨hw, H⟩
    · have := ready_mono hj hji
      rw [H.1] at this
      cases this
  | succ f ih =>
    intro listed a w hw hfree hr hy H
    have hun := (mem_ready.1 hr).1
    refine ⟨fun h => (by rw [h] at hr; cases hr), fun j hj => ?_⟩
    by_cases hji : j = i
    · subst hji; obtain ⟨s, hsw⟩ := hC w hw; exact qop_wpOp hi hsw hs hy ⟨hw, H⟩
    · have h1 := H.2 j (ready_mono hj hji)
      obtain ⟨hjun, oj, hoj, hall⟩ := mem_ready.1 hj
      have hnot : ∀ e ∈ oj.after, Region.binds md e = true → e.on ≠ i := fun e he hb heq => by
        have h1 := hall e he hb
        rw [heq, getD_both hun] at h1
        cases h1
      have h2 := wpOp_putC hoj (hfree j oj hoj hji hjun hnot) (fun cs b => hsel i oi cs b hi) (fun cs b => hsel j oj cs b hoj) (fun c a w => hQ c a oi.dst (vs i) w) hy h1
      have hfree' : ∀ k ok, ops[k]? = some ok → k ≠ i → (listed.setIfInBounds j true).getD k true = false →
          (∀ e ∈ ok.after, Region.binds md e = true → e.on ≠ i) → oi.apart ops ok = true := fun k ok hk hki hun hno => by
        refine hfree k ok hk hki ?_ hno
        by_cases hjk : j = k
        · subst hjk; exact hjun
        · rw [getD_set_ne true hjk] at hun; exact hun
      refine wpOp_mono (fun a' w' h3 => ⟨h3.2.1, ih (listed.setIfInBounds j true) a' w' h3.2.1 hfree' (ready_mono hr (Ne.symm hji)) h3.1 ?_⟩) h2
      rw [Array.setIfInBounds_comm _ _ hji]
      exact h3.2.2
def ordC (md : Region.Mode) (ops : Array Oper) (E : Array Bool → Bool) : List Nat → Array Bool → Bool
  | [], listed => E listed
  | i :: rest, listed => (Region.ready md ops listed).contains i && Region.free md ops listed i && ordC md ops E rest (listed.setIfInBounds i true)
theorem C_all {f : Nat} {E : Array Bool → Bool} {T : Act → World → Prop} (hsel : Region.noSelect ops = true) (hs : ∀ s w w', Cl s w → Cl s w' → w = w') (hC : ∀ w, C w → ∃ s, Cl s w)
    (hQ : ∀ c a d v w, Q' (.panic c) (a.put d v) w → Q' (.panic c) a w)
    (hT : ∀ listed a w, E listed = true → T a w → wpAnyC P md ops C Q' f listed a w) (w : World) (hw : C w) :
    ∀ (qs : List Nat) (listed : Array Bool) (a : Act), ordC md ops E qs listed = true → wpOrd P ops Cl vs (fun a => T a w) qs a → wpAnyC P md ops C Q' (qs.length + f) listed a w
  | [], listed, a, hB, h => by
    rw [show [].length + f = f from Nat.zero_add f]
    exact hT listed a w hB h
  | i :: qs, listed, a, hB, h => by
    simp only [ordC, Bool.and_eq_true] at hB
    obtain ⟨⟨hr, hf⟩, hB'⟩ := hB
    obtain ⟨o, ho, hqo, hK⟩ := h
    have hr' : i ∈ Region.ready md ops listed := by simpa using hr
    rw [show (i :: qs).length + f = (qs.length + f) + 1 by simp; omega]
    refine C_first ho (Region.noSelect_spec hsel) hs hC hQ _ listed a w hw (Region.free_spec ho hf) hr' hqo ?_
    exact C_all hsel hs hC hQ hT w hw qs _ _ hB' hK
end
def then' (Q : Exit → Act → World → Prop) (C : World → Prop) (R : Act → World → Prop) : Exit → Act → World → Prop
  | .normal, a, w => C w ∧ R a w
  | e, a, w => Q e a w
@[go_sem] theorem then_normal (Q : Exit → Act → World → Prop) (C : World → Prop) (R : Act → World → Prop) (a : Act) (w : World) : then' Q C R .normal a w = (C w ∧ R a w) := rfl
def loudly (P : Program) (ops : Array Oper) (C : World → Prop) (Q : Exit → Act → World → Prop) : List Oper → Act → World → Prop
  | [], a, w => Q .normal a w
  | o :: rest, a, w => wpList P ops (then' Q C (loudly P ops C Q rest)) [o] a w
def regC (l : List Oper) (qs ts : List Nat) (m : Nat) : Bool :=
  Region.noSelect l.toArray && ordC .any l.toArray (seqT .any l.toArray ts) qs (Array.replicate l.toArray.size false) &&
    dstB m (pickl l qs) && decide (qs.length + ts.length = l.length) && qs.all (fun i => decide (i < l.length))
def over (w : World) (L : List (Array Obj)) : World → Prop := fun w' => ∃ m : Ext, w' = wd w (m.e :: L) m.n
end Go.Proofs.YtifoekadjnlhcaaGreatDoor
namespace Go.Proofs.YtifoekadjnlhcaaGreatDoor
open Go.RowKit
set_option linter.unusedVariables false
set_option linter.unusedSimpArgs false
inductive LT where
  | done : LT
  | one (i : Nat) (t : LT) : LT
  | two (i j : Nat) (t u : LT) : LT
def LT.len : LT → Nat
  | .done => 0
  | .one _ t => t.len + 1
  | .two _ _ t u => max t.len u.len + 1
def okT (md : Region.Mode) (ops : Array Oper) : LT → Array Bool → Bool
  | .done, listed => decide (Region.ready md ops listed = [])
  | .one i t, listed => decide (Region.ready md ops listed = [i]) && okT md ops t (listed.setIfInBounds i true)
  | .two i j t u, listed => decide (Region.ready md ops listed = [i, j]) && okT md ops t (listed.setIfInBounds i true) && okT md ops u (listed.setIfInBounds j true)
def louds (P : Program) (l : List Oper) (C : World → Prop) (Q : Exit → Act → World → Prop) : LT → Act → World → Prop
  | .done, a, w => Q .normal a w
  | .one i t, a, w => wpList P l.toArray (then' Q C (louds P l C Q t)) (pickl l [i]) a w
  | .two i j t u, a, w => wpList P l.toArray (then' Q C (louds P l C Q t)) (pickl l [i]) a w ∧ wpList P l.toArray (then' Q C (louds P l C Q u)) (pickl l [j]) a w
section
variable {P : Program} {l : List Oper} {C : World → Prop} {Q : Exit → Act → World → Prop} {a : Act} {w : World}
end
theorem wpOp_pick {P : Program} {l : List Oper} {C : World → Prop} {Q' : Exit → Act → World → Prop} {R : Act → World → Prop} {i : Nat} {o : Oper} {a : Act} {w : World} (ho : l[i]? = some o)
    (h : wpList P l.toArray (then' Q' C R) (pickl l [i]) a w) : wpOp P l.toArray Q' i (fun a' w' => C w' ∧ R a' w') a w := by
  unfold pickl at h
  rw [List.filterMap_cons, ho] at h
  unfold wpOp
  simp only [List.getElem?_toArray, ho]
  exact h
def regT (l : List Oper) (qs : List Nat) (t : LT) (m : Nat) : Bool :=
  Region.noSelect l.toArray && ordC .any l.toArray (okT .any l.toArray t) qs (Array.replicate l.toArray.size false) &&
    dstB m (pickl l qs) && decide (qs.length + t.len = l.length) && qs.all (fun i => decide (i < l.length))
def overF (w : World) (L : List (Array Obj)) (m : Ext) : World := wd w (m.e :: L) m.n
end Go.Proofs.YtifoekadjnlhcaaGreatDoor
