/- Rows that a call itself makes by append: 'rowIn B S e E size v n xs': the slice v of n elements (size cells each) lies in the piece e above the pieces S, its cells are xs. -/
import Derived.Test.YtepdkcikkemieaaGreatLib
namespace Go.Proofs.YtepdkcikkemieaaGreat
open Go.RowKit
set_option linter.unusedVariables false
set_option linter.unusedSimpArgs false

def rowIn (B : Nat) (S : List Nat) (e : Array Obj) (E : TypeId) (size : Nat) (v : Value) (n : Nat) (xs : List Value) : Prop :=
  xs.length = n * size ∧ ((v = .slice none 0 0 ∧ n = 0) ∨
    ∃ j cap cur, v = .slice (some ⟨at' B S j, 0, none⟩) n cap ∧ j < e.size ∧ e[j]? = some (.cells cur E (0, 0)) ∧ n ≤ cap ∧ cap ≤ maxLen ∧ cur.size = cap * size ∧ cur.toList.take (n * size) = xs)

theorem rowIn_nil (B : Nat) (S : List Nat) (e : Array Obj) (E : TypeId) (size : Nat) : rowIn B S e E size (.slice none 0 0) 0 [] := ⟨by simp, .inl ⟨rfl, rfl⟩⟩
/-- More blocks behind. -/
theorem rowIn_more {B : Nat} {S : List Nat} {e : Array Obj} {E : TypeId} {size : Nat} {v : Value} {n : Nat} {xs : List Value} (h : rowIn B S e E size v n xs) (e' : Array Obj) : rowIn B S (e ++ e') E size v n xs := by
  obtain ⟨h1, h2⟩ := h
  refine ⟨h1, ?_⟩
  rcases h2 with h2 | ⟨j, cap, cur, hv, hj, he, r⟩
  · exact .inl h2
  · exact .inr ⟨j, cap, cur, hv, by rw [Array.size_append]; omega, by rw [Array.getElem?_append, if_pos hj]; exact he, r⟩
/-- Its shape and its cells. -/
theorem rowIn_look {B : Nat} {S : List Nat} {e : Array Obj} {E : TypeId} {size : Nat} {v : Value} {n : Nat} {xs : List Value} (h : rowIn B S e E size v n xs) :
    (v = .slice none 0 0 ∧ n = 0 ∧ xs = []) ∨ ∃ j cap, v = .slice (some ⟨at' B S j, 0, none⟩) n cap ∧ n ≤ cap ∧ cap ≤ maxLen ∧ j < e.size ∧ ∀ i, i < n * size → cellIn e j i = xs[i]? := by
  obtain ⟨h1, h2⟩ := h
  rcases h2 with ⟨h2, rfl⟩ | ⟨j, cap, cur, hv, hj, he, hn, hm, hs, hx⟩
  · exact .inl ⟨h2, rfl, by simpa using h1⟩
  · refine .inr ⟨j, cap, hv, hn, hm, hj, fun i hi => ?_⟩
    unfold cellIn
    rw [he]
    simp only
    rw [← hx, List.getElem?_take, if_pos hi]
    simp
theorem owns_of_row {w : World} {L : List (Array Obj)} {k : Nat} {e : Array Obj} {E : TypeId} {size : Nat} {v : Value} {n : Nat} {xs : List Value} (h : rowIn w.heap.size (shape L) e E size v n xs) : (wd w (e :: L) k).ownsRow (sz w.heap.size (shape L)) E size v n xs := by
  obtain ⟨h1, h2⟩ := h
  refine ⟨h1, ?_⟩
  rcases h2 with h2 | ⟨j, cap, cur, hv, hj, he, r⟩
  · exact .inl h2
  · exact .inr ⟨_, cap, cur, hv, by unfold at'; omega, by rw [wd_block_in w L k _ j _ e rfl rfl]; exact he, r⟩
theorem row_of_owns {w : World} {L : List (Array Obj)} {k : Nat} {e : Array Obj} {E : TypeId} {size : Nat} {v : Value} {n : Nat} {xs : List Value} (h : (wd w (e :: L) k).ownsRow (sz w.heap.size (shape L)) E size v n xs) : rowIn w.heap.size (shape L) e E size v n xs := by
  obtain ⟨h1, h2⟩ := h
  refine ⟨h1, ?_⟩
  rcases h2 with h2 | ⟨g, cap, cur, hv, hg, he, r⟩
  · exact .inl h2
  · have eg : at' w.heap.size (shape L) (g - sz w.heap.size (shape L)) = g := by unfold at'; omega
    rw [← eg, wd_block_in w L k _ _ _ e rfl rfl] at he
    exact .inr ⟨_, cap, cur, by rw [eg]; exact hv, (Array.getElem?_eq_some_iff.1 he).1, he, r⟩
/-- What an append leaves, above L: one piece. -/
theorem grown_piece {w w' : World} {L : List (Array Obj)} {m n : Nat} {e : Array Obj} {row : Option Nat} (hg : (wd w (e :: L) n).grownBy w' row) (hr : ∀ k, row = some k → sz w.heap.size (shape L) ≤ k) : ∃ m' : Ext, w' = wd w (m'.e :: L) m'.n := by
  have hb : Below (wd w L n).heap.size (wd w L n) w' := by
    refine ⟨hg.os, hg.tape, hg.output, ?_, fun k hk => ?_⟩
    · have := hg.size; rw [wd_size, shape_cons] at this; rw [wd_size]; simp only [sz] at this; omega
    · rw [wd_size] at hk
      rw [hg.block k (by rw [wd_size, shape_cons]; simp only [sz]; omega) (fun h => by have := hr k h.symm; omega)]
      show (hp w.heap L ++ e)[k]? = (hp w.heap L)[k]?
      rw [Array.getElem?_append, if_pos (by rw [hp_size]; exact hk)]
  obtain ⟨x, k, rfl⟩ := more_of_below hb
  exact ⟨⟨x, k⟩, rfl⟩
/-- 'append(s, x)', x one element. -/
theorem wp_append_row {P : Program} {ops : Array Oper} {rest : List Oper} {o : Oper} {a : Act} {Q : Exit → Act → World → Prop} (hgd : o.guard = none) (s x : Operand) (t : TypeId)
    (ho : o.op = .call { callee := .builtin .append, args := #[s, x], argTypes := #[t, t] })
    (e : TypeId) (i : TypeInfo) (z : Value) (size bytes : Nat) (ht : P.underlying t = some (.slice e)) (hi : P.info? e = some i) (hz : i.zero = some z)
    (hsize : i.size = size) (hby : i.bytes = bytes) (hzs : z.cells.size = size) (hsz : 0 < size)
    {w : World} {L : List (Array Obj)} {n : Nat} {m : Array Obj} (v : Value) (k : Nat) (xs : List Value) (hs : a.eval s = v) (hrow : rowIn w.heap.size (shape L) m e size v k xs)
    (C : Array Value) (t' : TypeId) (q c : Nat) (hx : a.eval x = .slice (some ⟨sz w.heap.size (m.size :: shape L), 0, none⟩) q c) (hl : C.size = q * size) (h1 : ∀ u ∈ C.toList, u.oneCell' = true)
    (h63 : k + q ≤ maxLen) (hbytes : (k + q) * bytes ≤ 140737488355328)
    (h : ∀ (v' : Value) (m' : Ext), rowIn w.heap.size (shape L) m'.e e size v' (k + q) (xs ++ C.toList) → wpList P ops Q rest (a.put o.dst v') (wd w (m'.e :: L) m'.n)) :
    wpList P ops Q (o :: rest) a (wd w (#[.cells C t'] :: m :: L) n) := by
  rw [wd_merge]
  have hown := owns_of_row (k := n) (rowIn_more hrow #[.cells C t'])
  refine wpList_append_own _ hgd s x t ho (sz w.heap.size (shape L)) e i z size bytes ht hi hz hsize hby hzs hsz v k xs hs hown _ q c C.toList hx (by simpa using hl) (fun j u hu => ?_) h1 h63 hbytes (by rw [wd_size, shape_cons]; simp only [sz]; omega) ?_
  · rw [← wd_merge]
    have e1 : ((⟨sz w.heap.size (m.size :: shape L), 0, none⟩ : Addr).add j) = ⟨sz w.heap.size (m.size :: shape L), j, none⟩ := by
      unfold Addr.add; split <;> simp_all
    rw [e1, wd_cell w (m :: L) n w.heap.size j (m.size :: shape L) C t' (0, 0) rfl rfl]
    simpa using hu
  · intro v' w' hown' hg _
    have hr : ∀ k, v.ownBlock = some k → sz w.heap.size (shape L) ≤ k := fun k hk => by
      rcases hrow.2 with ⟨rfl, _⟩ | ⟨j, cap, cur, rfl, _⟩
      · simp [Value.ownBlock] at hk
      · simp only [Value.ownBlock, Option.some.injEq] at hk; unfold at' at hk; omega
    obtain ⟨m', rfl⟩ := grown_piece (m := 0) hg hr
    exact h v' m' (row_of_owns hown')
end Go.Proofs.YtepdkcikkemieaaGreat
