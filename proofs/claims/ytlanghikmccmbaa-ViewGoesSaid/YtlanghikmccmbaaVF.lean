/- bilanderref36: Put. -/
import Derived.Test.YtlanghikmccmbaaVE
import Derived.Test.YtlanghikmccmbaaMB
namespace Go.Proofs.Ytlanghikmccmbaa
open Go.ChangeShapes Go.WideShapes Go.ChangeAt Go.RowKit
set_option linter.unusedVariables false
set_option linter.unusedSimpArgs false

/-- The bytes l are the call's own, from the piece above L on. -/
abbrev KOwn (W w : World) (L : List (Array Obj)) (v : Value) (l : List UInt8) : Prop := W.ownsRow (sz w.heap.size (shape L)) 5 1 v l.length (Lib.byteCells l)
/-- A piece that kept its size. -/
theorem kept_size {k : Nat} (s : { Y : Array Obj // Y.size = k }) : s.1.size = k := s.2
attribute [go_sem] kept_size
end Go.Proofs.Ytlanghikmccmbaa
/- view, plain: what is laid is read. -/
namespace Go.Proofs.Ytlanghikmccmbaa
open Go.RowKit
set_option linter.unusedVariables false
set_option linter.unusedSimpArgs false

/-- One row off bytes: the row, what is left, the error. -/
def rdA (l : List UInt8) (e : Int) : List UInt8 × Int × List UInt8 := txt l e 64
def rdB (l : List UInt8) (e : Int) : List UInt8 × Int × List UInt8 := txt (rdA l e).1 (rdA l e).2.1 512
def rdC (l : List UInt8) (e : Int) : List UInt8 × Int := (numL (rdB l e).1 (rdB l e).2.1, numE (rdB l e).1 (rdB l e).2.1)
def rdD (l : List UInt8) (e : Int) : List UInt8 × Int := (numL (rdC l e).1 (rdC l e).2, numE (rdC l e).1 (rdC l e).2)
def rdRow (l : List UInt8) (e : Int) : VRow := ⟨(rdA l e).2.2, (rdB l e).2.2, numV (rdB l e).1 (rdB l e).2.1, numV (rdC l e).1 (rdC l e).2⟩
/-- What is left behind k rows; the first k. -/
def rdSt : Nat → List UInt8 → Int → List UInt8 × Int
  | 0, l, e => (l, e)
  | k + 1, l, e => rdD (rdSt k l e).1 (rdSt k l e).2
def rdRows (n : Nat) (l : List UInt8) (e : Int) : List VRow := (List.range n).map fun k => rdRow (rdSt k l e).1 (rdSt k l e).2
theorem rdRows_succ (n : Nat) (l : List UInt8) (e : Int) : rdRows (n + 1) l e = rdRows n l e ++ [rdRow (rdSt n l e).1 (rdSt n l e).2] := by
  simp [rdRows, List.range_succ]
theorem rdRows_len (n : Nat) (l : List UInt8) (e : Int) : (rdRows n l e).length = n := by simp [rdRows]
def RowOk (x : VRow) : Prop := x.key.length ≤ 64 ∧ x.value.length ≤ 512 ∧ I64 x.offset ∧ I64 x.time
theorem vtext_textL (s : List UInt8) : text (str s) = textL s := by
  unfold text textL
  rw [str_size]; rfl
theorem rd_put {x : VRow} (h : RowOk x) (rest : List UInt8) : rdRow (rowB x ++ rest) 0 = x ∧ rdD (rowB x ++ rest) 0 = (rest, 0) := by
  obtain ⟨k, v, o, t⟩ := x
  obtain ⟨h1, h2, h3, h4⟩ := h
  dsimp only at h1 h2 h3 h4
  have e0 : rowB ⟨k, v, o, t⟩ ++ rest = textL k ++ (textL v ++ (put o ++ (put t ++ rest))) := by
    unfold rowB
    rw [vtext_textL, vtext_textL]
    simp only [List.append_assoc]
  rw [e0]
  have a := txt_text k 64 (by omega) (by omega) (textL v ++ (put o ++ (put t ++ rest)))
  have b := txt_text v 512 (by omega) (by omega) (put o ++ (put t ++ rest))
  obtain ⟨c1, c2, c3⟩ := num_put o h3 (put t ++ rest)
  obtain ⟨d1, d2, d3⟩ := num_put t h4 rest
  have hA : rdA (textL k ++ (textL v ++ (put o ++ (put t ++ rest)))) 0 = (textL v ++ (put o ++ (put t ++ rest)), 0, k) := a
  have hB : rdB (textL k ++ (textL v ++ (put o ++ (put t ++ rest)))) 0 = (put o ++ (put t ++ rest), 0, v) := by unfold rdB; rw [hA]; exact b
  have hC : rdC (textL k ++ (textL v ++ (put o ++ (put t ++ rest)))) 0 = (put t ++ rest, 0) := by unfold rdC; rw [hB]; simp only; rw [c1, c2]
  refine ⟨?_, ?_⟩
  · unfold rdRow
    rw [hA, hB, hC]
    simp only
    rw [c3, d3]
  · unfold rdD
    rw [hC]
    simp only
    rw [d1, d2]
theorem rowsB_cons (x : VRow) (l : List VRow) : rowsB (x :: l) = rowB x ++ rowsB l := by simp [rowsB]
theorem rdSt_put : ∀ (k : Nat) (rs : List VRow) (rest : List UInt8), (∀ r ∈ rs, RowOk r) → k ≤ rs.length → rdSt k (rowsB rs ++ rest) 0 = (rowsB (rs.drop k) ++ rest, 0)
  | 0, rs, rest, _, _ => rfl
  | k + 1, rs, rest, hw, hk => by
    have h := rdSt_put k rs rest hw (by omega)
    unfold rdSt
    have hlt : k < rs.length := hk
    rw [h, List.drop_eq_getElem_cons hlt]
    have e : rowsB (rs[k] :: rs.drop (k + 1)) ++ rest = rowB rs[k] ++ (rowsB (rs.drop (k + 1)) ++ rest) := by rw [rowsB_cons, List.append_assoc]
    rw [e]
    exact (rd_put (hw _ (List.getElem_mem hlt)) _).2
theorem rdRows_put (rs : List VRow) (rest : List UInt8) (hw : ∀ r ∈ rs, RowOk r) : ∀ (n : Nat), n ≤ rs.length → rdRows n (rowsB rs ++ rest) 0 = rs.take n
  | 0, _ => by simp [rdRows]
  | n + 1, hn => by
    have hlt : n < rs.length := hn
    have e : rowsB (rs[n] :: rs.drop (n + 1)) ++ rest = rowB rs[n] ++ (rowsB (rs.drop (n + 1)) ++ rest) := by rw [rowsB_cons, List.append_assoc]
    rw [rdRows_succ, rdRows_put rs rest hw n (by omega), rdSt_put n rs rest hw (by omega), List.drop_eq_getElem_cons hlt, e, (rd_put (hw _ (List.getElem_mem hlt)) _).1, ← List.take_succ_eq_append_getElem hlt]
/-- What stands ahead of the rows. -/
def vNext (l : List UInt8) : Int := numV l 0
def vCnt (l : List UInt8) : Int := numV (numL l 0) (numE l 0)
def vSt (l : List UInt8) : List UInt8 × Int := (numL (numL l 0) (numE l 0), numE (numL l 0) (numE l 0))
def vN (l : List UInt8) : Nat := (max 0 (min (vCnt l) 4097)).toNat
def viewDec (k : Nat) (l : List UInt8) : Vw := ⟨vNext l, rdRows k (vSt l).1 (vSt l).2⟩
/-- A view off bytes, and the error. -/
def viewGet (l : List UInt8) : Vw × Int := if viewPut (viewDec (vN l) l) = (l, 0) then (viewDec (vN l) l, 0) else (Vw.zero, 4)
theorem viewPut_ok {v : Vw} {l : List UInt8} (h : viewPut v = (l, 0)) : l = viewLay v ∧ viewCheck v = 0 := by
  unfold viewPut at h
  by_cases hc : viewCheck v = 0
  · rw [if_neg (by rw [hc]; simp)] at h
    exact ⟨(congrArg Prod.fst h).symm, hc⟩
  · rw [if_pos hc] at h
    have := congrArg Prod.snd h
    exact absurd this hc
theorem view_facts {v : Vw} {l : List UInt8} (h : viewPut v = (l, 0)) : viewDec (vN l) l = v ∧ vN l = v.rows.length ∧ (∀ k, k ≤ vN l → (rdSt k (vSt l).1 (vSt l).2).2 = 0) := by
  obtain ⟨rfl, hc⟩ := viewPut_ok h
  obtain ⟨⟨n1, n2⟩, h4, hf⟩ := view_fit hc
  have hw : ∀ r ∈ v.rows, RowOk r := fun r hr => by
    have := hf r hr
    exact ⟨this.k, this.v, ⟨this.o1, this.o2⟩, ⟨this.t1, this.t2⟩⟩
  have e0 : viewLay v = put v.next ++ (put (v.rows.length : Int) ++ (rowsB v.rows ++ [])) := by unfold viewLay; simp [List.append_assoc]
  obtain ⟨a1, a2, a3⟩ := num_put v.next ⟨n1, n2⟩ (put (v.rows.length : Int) ++ (rowsB v.rows ++ []))
  obtain ⟨b1, b2, b3⟩ := num_put (v.rows.length : Int) ⟨by omega, by omega⟩ (rowsB v.rows ++ [])
  rw [← e0] at a1 a2 a3
  have hS : vSt (viewLay v) = (rowsB v.rows ++ [], 0) := by unfold vSt; rw [a1, a2, b1, b2]
  have hN : vN (viewLay v) = v.rows.length := by unfold vN vCnt; rw [a1, a2, b3]; omega
  refine ⟨?_, hN, fun k hk => ?_⟩
  · unfold viewDec
    rw [hS, hN]
    simp only
    rw [rdRows_put v.rows [] hw _ (Nat.le_refl _), List.take_length]
    unfold vNext
    rw [a3]
  · rw [hS]
    simp only
    rw [rdSt_put k v.rows [] hw (by omega)]
theorem viewGet_put {v : Vw} {l : List UInt8} (h : viewPut v = (l, 0)) : viewGet l = (v, 0) := by
  obtain ⟨hd, _⟩ := view_facts h
  unfold viewGet
  rw [hd, if_pos h]
theorem viewGet_no {l : List UInt8} (h : ∀ v, viewPut v ≠ (l, 0)) : viewGet l = (Vw.zero, 4) := by
  unfold viewGet
  rw [if_neg (h _)]
theorem vtxt_len (l : List UInt8) (e most : Int) (hm : 0 ≤ most) : ((txt l e most).2.2.length : Int) ≤ most := by
  unfold txt
  split
  · simpa using hm
  · split
    · simpa using hm
    · split
      · simpa using hm
      · next h1 h2 h3 =>
        simp only [List.length_take]
        omega
theorem rdRows_small (n : Nat) (l : List UInt8) (e : Int) : ∀ x ∈ rdRows n l e, x.key.length ≤ maxLen ∧ x.value.length ≤ maxLen := by
  intro x hx
  simp only [rdRows, List.mem_map] at hx
  obtain ⟨k, _, rfl⟩ := hx
  have h1 := vtxt_len (rdSt k l e).1 (rdSt k l e).2 64 (by omega)
  have h2 := vtxt_len (rdA (rdSt k l e).1 (rdSt k l e).2).1 (rdA (rdSt k l e).1 (rdSt k l e).2).2.1 512 (by omega)
  unfold maxLen
  exact ⟨by show (txt _ _ _).2.2.length ≤ _; omega, by show (txt _ _ _).2.2.length ≤ _; omega⟩
end Go.Proofs.Ytlanghikmccmbaa
