/- Appends to a row that lies beneath some pieces. -/
import Derived.Test.YtifoekadjnlhcaaGreatDoorMC
import Derived.Test.YtifoekadjnlhcaaGreatDoorME
namespace Go.Proofs.YtifoekadjnlhcaaGreatDoor
open Go.RowKit
set_option linter.unusedVariables false
set_option linter.unusedSimpArgs false
def mall (m : Array Obj) : List (Array Obj) → Array Obj
  | [] => m
  | d :: D => mall m D ++ d
theorem hp_mall (h m : Array Obj) (L : List (Array Obj)) : ∀ D, hp h (D ++ m :: L) = hp h (mall m D :: L)
  | [] => rfl
  | d :: D => by
    show hp h (D ++ m :: L) ++ d = hp h L ++ (mall m D ++ d)
    rw [hp_mall h m L D]
    exact Array.append_assoc ..
theorem sz_mall (B : Nat) (m : Array Obj) (L : List (Array Obj)) : ∀ D, sz B (shape (D ++ m :: L)) = sz B (shape (mall m D :: L))
  | [] => rfl
  | d :: D => by
    show sz B (shape (D ++ m :: L)) + d.size = sz B (shape L) + (mall m D ++ d).size
    rw [sz_mall B m L D, Array.size_append]
    show sz B (shape L) + (mall m D).size + d.size = _
    omega
theorem rowIn_mall {B : Nat} {S : List Nat} {m : Array Obj} {E : TypeId} {size : Nat} {v : Value} {n : Nat} {xs : List Value} (h : rowIn B S m E size v n xs) : ∀ D, rowIn B S (mall m D) E size v n xs
  | [] => h
  | d :: D => rowIn_more (rowIn_mall h D) d
theorem wd_mall1 (w : World) (c m : Array Obj) (L : List (Array Obj)) (n : Nat) (D : List (Array Obj)) : wd w (c :: (D ++ m :: L)) n = wd w (c :: mall m D :: L) n := by
  have h := hp_mall w.heap m L D
  exact world_ext (by show hp w.heap (D ++ m :: L) ++ c = hp w.heap (mall m D :: L) ++ c; rw [h]) rfl rfl rfl rfl
theorem wp_append_rowD (D : List (Array Obj)) {P : Program} {ops : Array Oper} {rest : List Oper} {o : Oper} {a : Act} {Q : Exit → Act → World → Prop} (hgd : o.guard = none) (s x : Operand) (t : TypeId)
    (ho : o.op = .call { callee := .builtin .append, args := #[s, x], argTypes := #[t, t] })
    (e : TypeId) (i : TypeInfo) (z : Value) (size bytes : Nat) (ht : P.underlying t = some (.slice e)) (hi : P.info? e = some i) (hz : i.zero = some z)
    (hsize : i.size = size) (hby : i.bytes = bytes) (hzs : z.cells.size = size) (hsz : 0 < size)
    {w : World} {L : List (Array Obj)} {n : Nat} {m : Array Obj} (v : Value) (k : Nat) (xs : List Value) (hs : a.eval s = v) (hrow : rowIn w.heap.size (shape L) m e size v k xs)
    (C : Array Value) (t' : TypeId) (q c : Nat) (hx : a.eval x = .slice (some ⟨sz w.heap.size (shape (D ++ m :: L)), 0, none⟩) q c) (hl : C.size = q * size) (h1 : ∀ u ∈ C.toList, u.oneCell' = true)
    (h63 : k + q ≤ maxLen) (hbytes : (k + q) * bytes ≤ 140737488355328)
    (h : ∀ (v' : Value) (m' : Ext), rowIn w.heap.size (shape L) m'.e e size v' (k + q) (xs ++ C.toList) → wpList P ops Q rest (a.put o.dst v') (wd w (m'.e :: L) m'.n)) :
    wpList P ops Q (o :: rest) a (wd w (#[.cells C t'] :: (D ++ m :: L)) n) := by
  rw [wd_mall1]
  exact wp_append_row hgd s x t ho e i z size bytes ht hi hz hsize hby hzs hsz v k xs hs (rowIn_mall hrow D) C t' q c (by rw [hx, sz_mall]; rfl) hl h1 h63 hbytes h
end Go.Proofs.YtifoekadjnlhcaaGreatDoor
namespace Go.Proofs.YtifoekadjnlhcaaGreatDoor
open Go.ChangeShapes Go.WideShapes Go.ChangeAt Go.RowKit
set_option linter.unusedVariables false
set_option linter.unusedSimpArgs false
structure BatRet (w w' : World) (x : Ending) (g : Bat × Int) : Prop where
  out : ∃ a cap, x = .returned (.tuple #[.agg #[.int .i64 g.1.base, .int .i64 g.1.count, .int .i64 g.1.producer, .int .i64 g.1.epoch, .int .i64 g.1.seq, .slice a g.1.recs.length cap], .int .i64 g.2]) ∧ RecsAt w' a g.1.recs ∧ More w w' ∧ From w.heap.size a g.1.recs
abbrev rbk (v : Value) (e : Int) : Array Obj := #[.cells #[v, .int .i64 e] 408]
structure OwnRd (w : World) (c : Array Obj) (L : List (Array Obj)) (p : Nat) (v0 : Value) (l : List UInt8) : Prop where
  r0 : ∀ n v e, Rdr (wd w (rbk v e :: c :: L) n) p v e
  r1 : ∀ x n v e, Rdr (wd w (x :: rbk v e :: c :: L) n) p v e
  r2 : ∀ x y n v e, Rdr (wd w (x :: y :: rbk v e :: c :: L) n) p v e
  r3 : ∀ x y z n v e, Rdr (wd w (x :: y :: z :: rbk v e :: c :: L) n) p v e
  r4 : ∀ x y z t n v e, Rdr (wd w (x :: y :: z :: t :: rbk v e :: c :: L) n) p v e
  b0 : ∀ n v e v' l', (∀ W0, RB W0 v0 l → RB W0 v' l') → RB (wd w (rbk v e :: c :: L) n) v' l'
  b1 : ∀ x n v e v' l', (∀ W0, RB W0 v0 l → RB W0 v' l') → RB (wd w (x :: rbk v e :: c :: L) n) v' l'
  b2 : ∀ x y n v e v' l', (∀ W0, RB W0 v0 l → RB W0 v' l') → RB (wd w (x :: y :: rbk v e :: c :: L) n) v' l'
  b3 : ∀ x y z n v e v' l', (∀ W0, RB W0 v0 l → RB W0 v' l') → RB (wd w (x :: y :: z :: rbk v e :: c :: L) n) v' l'
  b4 : ∀ x y z t n v e v' l', (∀ W0, RB W0 v0 l → RB W0 v' l') → RB (wd w (x :: y :: z :: t :: rbk v e :: c :: L) n) v' l'
end Go.Proofs.YtifoekadjnlhcaaGreatDoor
