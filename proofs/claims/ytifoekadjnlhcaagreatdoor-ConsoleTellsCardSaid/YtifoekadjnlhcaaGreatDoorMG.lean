/- dump, plain: quoted texts, digits, lines. -/
import Derived.Test.YtifoekadjnlhcaaGreatDoorMC
import Derived.Test.YtifoekadjnlhcaaGreatDoorMA
import Derived.Lib.ConvBytes
import Derived.Lib.Builder
import Derived.Lib.SliceRun
import Derived.Maps.Range
namespace Go.Proofs.YtifoekadjnlhcaaGreatDoor
open Go.RowKit
set_option linter.unusedVariables false
set_option linter.unusedSimpArgs false
def plainB (c : UInt8) : Bool := decide (32 < c.toNat) && (decide (c.toNat < 127) && !decide (c.toNat = 37))
def hexB (n : Nat) : UInt8 := if n < 10 then UInt8.ofNat (48 + n) else UInt8.ofNat (87 + n)
def quoteC (c : UInt8) : List UInt8 := if plainB c then [c] else [37, hexB (c.toNat / 16), hexB (c.toNat % 16)]
def quote (l : List UInt8) : List UInt8 := if l = [] then [37, 45] else l.flatMap quoteC
def halfB (c : UInt8) : Nat := if 48 ≤ c.toNat ∧ c.toNat ≤ 57 then c.toNat - 48 else if 97 ≤ c.toNat ∧ c.toNat ≤ 102 then c.toNat - 87 else 16
def unq : List UInt8 → Option (List UInt8)
  | [] => some []
  | [c] => if c = 37 then none else some [c]
  | [c, d] => if c = 37 then none else (unq [d]).map (c :: ·)
  | c :: a :: b :: r => if c = 37 then (if halfB a < 16 ∧ halfB b < 16 then (unq r).map (UInt8.ofNat (16 * halfB a + halfB b) :: ·) else none) else (unq (a :: b :: r)).map (c :: ·)
def unquote (s : List UInt8) : List UInt8 × Bool :=
  if s = [37, 45] then ([], true) else
  match unq s with
  | none => ([], false)
  | some b => if b = [] ∨ quote b ≠ s then ([], false) else (b, true)
def wordB (c : UInt8) : Bool := decide (32 < c.toNat) && decide (c.toNat < 127)
def digs (n : Nat) : List UInt8 := if h : n < 10 then [UInt8.ofNat (48 + n)] else digs (n / 10) ++ [UInt8.ofNat (48 + n % 10)]
termination_by n
decreasing_by omega
theorem digs_small {n : Nat} (h : n < 10) : digs n = [UInt8.ofNat (48 + n)] := by rw [digs, dif_pos h]
theorem digs_big {n : Nat} (h : ¬ n < 10) : digs n = digs (n / 10) ++ [UInt8.ofNat (48 + n % 10)] := by rw [digs, dif_neg h]
def digN (n : Int) : List UInt8 := if n < 0 then 45 :: digs n.natAbs else digs n.toNat
theorem digs_len : ∀ (k n : Nat), n < 10 ^ (k + 1) → (digs n).length ≤ k + 1
  | 0, n, h => by rw [digs_small (by simpa using h)]; simp
  | k + 1, n, h => by
    by_cases h10 : n < 10
    · rw [digs_small h10]; simp
    · rw [digs_big h10, List.length_append]
      have := digs_len k (n / 10) (by rw [Nat.div_lt_iff_lt_mul (by decide)]; rw [Nat.pow_succ] at h; exact h)
      simp; omega
def numFold (l : List UInt8) (n : Nat) : Option Nat :=
  match l with
  | [] => some n
  | c :: r => if c.toNat < 48 ∨ 57 < c.toNat ∨ 461168601842738790 < n then none else numFold r (n * 10 + (c.toNat - 48))
def numD (s : List UInt8) : Int :=
  match numFold s 0 with
  | none => -1
  | some n => if s = [] ∨ digN n ≠ s then -1 else n
def splitC (c : UInt8) : List UInt8 → List (List UInt8)
  | [] => [[]]
  | x :: r => if x = c then [] :: splitC c r else match splitC c r with
    | [] => [[x]]
    | w :: ws => (x :: w) :: ws
def joinC (c : UInt8) : List (List UInt8) → List UInt8
  | [] => []
  | [w] => w
  | w :: ws => w ++ c :: joinC c ws
theorem splitC_ne (c : UInt8) (l : List UInt8) : splitC c l ≠ [] := by
  cases l with
  | nil => simp [splitC]
  | cons x r => rw [splitC]; split
                · simp
                · split <;> simp
theorem splitC_word (c : UInt8) : ∀ (w : List UInt8), c ∉ w → splitC c w = [w]
  | [], _ => rfl
  | x :: w, h => by
    rw [List.mem_cons, not_or] at h
    rw [splitC, if_neg (Ne.symm h.1), splitC_word c w h.2]
theorem splitC_at (c : UInt8) : ∀ (w r : List UInt8), c ∉ w → splitC c (w ++ c :: r) = w :: splitC c r
  | [], r, _ => by rw [List.nil_append, splitC, if_pos rfl]
  | x :: w, r, h => by
    rw [List.mem_cons, not_or] at h
    rw [List.cons_append, splitC, if_neg (Ne.symm h.1), splitC_at c w r h.2]
end Go.Proofs.YtifoekadjnlhcaaGreatDoor
namespace Go.Proofs.YtifoekadjnlhcaaGreatDoor
open Go.ChangeShapes Go.WideShapes Go.ChangeAt Go.RowKit
set_option linter.unusedVariables false
set_option linter.unusedSimpArgs false
theorem str_toList' (l : List UInt8) : (str l).data.toList = l := by simp [str]
theorem bytesWorld_plus (w : World) (e : TypeId) (s : ByteArray) : ∃ m : Ext, Lib.bytesWorld w e s = plus w m.e m.n := by
  refine ⟨⟨#[.cells (Lib.bytesCells w e s) e ((Lib.bytesCells w e s).size, (Lib.bytesCells w e s).size + 1)], w.drawn + 1⟩, ?_⟩
  refine world_ext ?_ rfl rfl rfl rfl
  apply Array.ext_getElem?
  intro j
  show (Lib.bytesWorld w e s).heap[j]? = (w.heap ++ #[_])[j]?
  rcases Nat.lt_trichotomy j w.heap.size with hj | hj | hj
  · rw [Lib.bytesWorld_at_old w e s j hj, Array.getElem?_append_left hj]
  · subst hj
    rw [Lib.bytesWorld_at_new, Array.getElem?_append_right (Nat.le_refl _)]
    simp
  · rw [Array.getElem?_eq_none (by rw [Lib.bytesWorld_size]; omega), Array.getElem?_eq_none (by simp; omega)]
theorem run_conv (w : World) (l : List UInt8) (hl : l.length ≤ 1099511627776) : ∃ (a : Option Addr) (cap : Nat) (m : Ext), (convert 9 28 (.string (str l))).run Tryz.prog w = .ok (.slice a l.length cap) (plus w m.e m.n) ∧ RB (plus w m.e m.n) (.slice a l.length cap) l := by
  obtain ⟨m, hm⟩ := bytesWorld_plus w 5 (str l)
  have hs : (str l).size = l.length := str_size l
  have h1 := grownCap_ge w (str l).size 0 5
  have h2 := grownCap_le_maxLen w (str l).size 0 5 (by rw [hs]; unfold maxLen; omega)
  rw [hs] at h1 h2
  refine ⟨some ⟨w.heap.size, 0, none⟩, grownCap w l.length 0 5, m, ?_, ?_⟩
  · rw [Lib.run_convert_string_bytes w _ _ 5 (str l) Tryz.underlying9 Tryz.underlying28 Tryz.underlying5, hm, hs]
  · refine ⟨_, _, rfl, h1, h2, fun hne => ⟨w.heap.size, 0, rfl, ?_, fun i hi => ?_⟩⟩
    · rw [← hm, Lib.bytesWorld_size]; omega
    · rw [← hm, Nat.zero_add, Lib.bytesWorld_cell _ _ _ _ (by rw [hs]; exact hi), bc_get, str_toList']
      simp [List.getD, List.getElem?_eq_getElem hi]
theorem at_conv {ops : Array Oper} {rest : List Oper} {o : Oper} {a : Act} {Q : Exit → Act → World → Prop} {w : World} {L : List (Array Obj)} {n : Nat} {l : List UInt8} (hgd : o.guard = none) (x : Operand)
    (ho : o.op = .convert 9 28 x) (hx : a.eval x = .string (str l)) (hl : l.length ≤ 1099511627776)
    (h : ∀ (ad : Option Addr) (cap : Nat) (m : Ext), (∀ k, RB (wd w (m.e :: L) k) (.slice ad l.length cap) l) → wpList Tryz.prog ops Q rest (a.put o.dst (.slice ad l.length cap)) (wd w (m.e :: L) m.n)) :
    wpList Tryz.prog ops Q (o :: rest) a (wd w L n) := by
  obtain ⟨ad, cap, m, hrun, hrb⟩ := run_conv (wd w L n) l hl
  refine wpList_plain hgd fun K hK' => ?_
  have h2 := h ad cap m (fun k => hrb.more ⟨#[], k, by rw [wd_plus]; rw [show plus (wd w (m.e :: L) m.n) #[] k = wd w (#[] :: m.e :: L) k from rfl, wd_empty]⟩)
  unfold Oper.wp
  simp [execOp, ho, hx, hrun, Result.andThen]
  exact hK' _ _ h2
abbrev bld (q : Option Addr) (v : Value) : Array Obj := #[.cells #[.pointer q, v] 98]
abbrev self (w : World) (L : List (Array Obj)) : Addr := ⟨sz w.heap.size (shape L), 0, none⟩
section
variable (w : World) (L : List (Array Obj)) (n : Nat) (m d : Array Obj) (q : Option Addr) (v : Value)
theorem sizeBld : ∃ j, Tryz.prog.info? 98 = some j ∧ j.size ≠ 0 := by
  have h : (Tryz.prog.info? 98).map (·.size) = some 2 := by kernel_rfl
  obtain ⟨j, hj, hs⟩ := Option.map_eq_some_iff.1 h
  exact ⟨j, hj, by rw [hs]; decide⟩
theorem liesBld : liesAt Tryz.prog Tryz.prog.depth 98 (2 / Tryz.prog.cellsOf 98) 0 98 1 = true := by kernel_rfl
theorem no_escape (x : Value) (W : World) : (callFunc 88 #[x]).run Tryz.prog W = .ok (.value x) W := by
  rw [run_callFunc_extern Tryz.func88 (by kernel_rfl) (by kernel_rfl) (by kernel_rfl) (e := Extern.AbiNoEscape.same) (by kernel_rfl), Lib.run_noEscape]
  rfl
end
structure BldRet (w : World) (L : List (Array Obj)) (d : Array Obj) (l : List UInt8) (w' : World) : Prop where
  out : ∃ (v : Value) (m : Ext), w' = wd w (m.e :: d :: bld (some (self w L)) v :: L) m.n ∧ BRow w (d :: bld (some (self w L)) v :: L) m.e v l
section
variable (w : World) (L : List (Array Obj)) (n : Nat) (m d : Array Obj) (q : Option Addr) (v : Value) (l : List UInt8)
end
end Go.Proofs.YtifoekadjnlhcaaGreatDoor
namespace Go.Proofs.YtifoekadjnlhcaaGreatDoor
open Go.RowKit
set_option linter.unusedVariables false
set_option linter.unusedSimpArgs false
def putL {α : Type} (l : List α) (o : Nat) : List α → List α
  | [] => l
  | v :: r => putL (l.set o v) (o + 1) r
theorem setCell_block (w : World) (g o : Nat) (v : Value) {cur : Array Value} {E : TypeId} {fr : Nat × Nat} (h : w.heap[g]? = some (.cells cur E fr)) : (w.setCell ⟨g, o, none⟩ v).heap[g]? = some (.cells (cur.setIfInBounds o v) E fr) := by
  simp only [World.setCell]
  rw [Array.getElem?_modify, if_pos rfl, h]
  rfl
theorem setCells_grown (g : Nat) : ∀ (vs : List Value) (o : Nat) (w : World), w.grownBy (w.setCells g o vs) (some g) ∧ (w.setCells g o vs).heap.size = w.heap.size
  | [], _, w => ⟨⟨rfl, rfl, rfl, Nat.le_refl _, fun _ _ _ => rfl⟩, rfl⟩
  | v :: r, o, w => by
    obtain ⟨h1, h2⟩ := setCells_grown g r (o + 1) (w.setCell ⟨g, o, none⟩ v)
    have hs : (w.setCell ⟨g, o, none⟩ v).heap.size = w.heap.size := by simp [World.setCell]
    refine ⟨⟨h1.os, h1.tape, h1.output, by rw [World.setCells, h2, hs]; exact Nat.le_refl _, fun i hi hne => ?_⟩, by rw [World.setCells, h2, hs]⟩
    rw [World.setCells, h1.block i (by rw [hs]; exact hi) hne]
    simp only [World.setCell]
    rw [Array.getElem?_modify, if_neg (fun e => hne (by rw [e]))]
theorem grown_refl (w : World) (row : Option Nat) : w.grownBy w row := ⟨rfl, rfl, rfl, Nat.le_refl _, fun _ _ _ => rfl⟩
theorem grown_trans {a b c : World} {row : Option Nat} (h : a.grownBy b row) (k : b.grownBy c row) : a.grownBy c row :=
  ⟨k.os.trans h.os, k.tape.trans h.tape, k.output.trans h.output, Nat.le_trans h.size k.size, fun i hi hne => (k.block i (Nat.lt_of_lt_of_le hi h.size) hne).trans (h.block i hi hne)⟩
theorem grown_more {a b : World} (h : More a b) (row : Option Nat) : a.grownBy b row := by
  have bel := h.below
  exact ⟨bel.os, bel.tape, bel.output, bel.size, fun i hi _ => bel.block i hi⟩
theorem owns_more {w w' : World} {B size n : Nat} {E : TypeId} {v : Value} {xs : List Value} (h : w.ownsRow B E size v n xs) (hm : More w w') : w'.ownsRow B E size v n xs := by
  obtain ⟨h1, h2⟩ := h
  refine ⟨h1, ?_⟩
  rcases h2 with h2 | ⟨g, cap, cur, hv, hg, he, r⟩
  · exact .inl h2
  · exact .inr ⟨g, cap, cur, hv, hg, (hm.below.block g (Array.getElem?_eq_some_iff.1 he).1).trans he, r⟩
section
variable {W : World} {B size n cap g : Nat} {E : TypeId} {xs : List Value}
theorem owns_block (h : W.ownsRow B E size (.slice (some ⟨g, 0, none⟩) n cap) n xs) : ∃ cur, W.heap[g]? = some (.cells cur E (0, 0)) ∧ B ≤ g ∧ n ≤ cap ∧ cap ≤ maxLen ∧ cur.size = cap * size ∧ cur.toList.take (n * size) = xs ∧ xs.length = n * size := by
  obtain ⟨h1, ⟨h2, _⟩ | ⟨g', cap', cur, hv, hg, he, hn, hm, hs, hx⟩⟩ := h
  · cases h2
  · cases hv; exact ⟨cur, he, hg, hn, hm, hs, hx, h1⟩
theorem owns_lt (h : W.ownsRow B E size (.slice (some ⟨g, 0, none⟩) n cap) n xs) : g < W.heap.size := by
  obtain ⟨cur, hb, _⟩ := owns_block h
  exact (Array.getElem?_eq_some_iff.1 hb).1
end
end Go.Proofs.YtifoekadjnlhcaaGreatDoor
