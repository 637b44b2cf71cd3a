/- slices.symMergeCmpFunc at rows of a view, whole; insertion sort keeps what has one number as it stood; blocks. -/
import Derived.Test.YtlanghikmccmbaaSC
import Derived.Sort.LotA
import Derived.Shelf.SlSortCmp.PdqK
import Derived.Test.YtlanghikmccmbaaShelf
import Derived.Test.YtlanghikmccmbaaMI
import Derived.Test.YtlanghikmccmbaaVT
namespace Go.Proofs.Ytlanghikmccmbaa
open Go.RowKit Go.Lib Go.Sort
set_option linter.unusedVariables false
set_option linter.unusedSimpArgs false
/-! blocks -/
section
variable {f : VRow → Int}
/-- Sorted blocks of one length. -/
def AllB (f : VRow → Int) (bs : Nat) (Bs : List (List VRow)) : Prop := ∀ B ∈ Bs, SortedF f B ∧ B.length = bs
theorem AllB.nil {bs : Nat} : AllB f bs [] := fun _ h => by cases h
theorem AllB.snoc {bs : Nat} {Bs : List (List VRow)} {B : List VRow} (h : AllB f bs Bs) (h1 : SortedF f B) (h2 : B.length = bs) : AllB f bs (Bs ++ [B]) := fun C hC => by
  rcases List.mem_append.1 hC with h3 | h3
  · exact h C h3
  · rw [List.mem_singleton] at h3; subst h3; exact ⟨h1, h2⟩
theorem AllB.tail {bs : Nat} {Bs : List (List VRow)} {B : List VRow} (h : AllB f bs (B :: Bs)) : AllB f bs Bs := fun C hC => h C (List.mem_cons_of_mem _ hC)
theorem AllB.head {bs : Nat} {Bs : List (List VRow)} {B : List VRow} (h : AllB f bs (B :: Bs)) : SortedF f B ∧ B.length = bs := h B (List.mem_cons_self ..)
def Bks (f : VRow → Int) (bs : Nat) (l : List VRow) : Prop := ∃ (Bs : List (List VRow)) (T : List VRow), l = Bs.flatten ++ T ∧ AllB f bs Bs ∧ SortedF f T ∧ T.length < bs
theorem Bks.all {bs : Nat} {l : List VRow} (h : Bks f bs l) (hl : l.length ≤ bs) (h0 : 0 < bs) : SortedF f l := by
  obtain ⟨Bs, T, rfl, hB, hT, ht⟩ := h
  rw [List.length_append] at hl
  match Bs, hB, hl with
  | [], _, _ => exact hT
  | [B], hB, hl =>
    have := hB.head
    simp only [List.flatten_cons, List.flatten_nil, List.append_nil] at hl ⊢
    obtain rfl : T = [] := List.length_eq_zero_iff.1 (by omega)
    rw [List.append_nil]; exact this.1
  | B :: C :: Bs, hB, hl =>
    have h1 := hB.head
    have h2 := hB.tail.head
    simp only [List.flatten_cons, List.length_append] at hl
    omega
/-- In the midst of a merge of blocks. -/
def Mid (f : VRow → Int) (bs a : Nat) (l : List VRow) : Prop := ∃ (Cs Bs : List (List VRow)) (T : List VRow), l = Cs.flatten ++ (Bs.flatten ++ T) ∧ AllB f (2 * bs) Cs ∧ AllB f bs Bs ∧ SortedF f T ∧ T.length < bs ∧ Cs.flatten.length = a
theorem Mid.start {bs : Nat} {l : List VRow} (h : Bks f bs l) : Mid f bs 0 l := by
  obtain ⟨Bs, T, rfl, hB, hT, ht⟩ := h
  exact ⟨[], Bs, T, rfl, AllB.nil, hB, hT, ht, rfl⟩
/-- The last: one block, and a rest. -/
theorem Mid.rest {bs a : Nat} {l : List VRow} (h : Mid f bs a l) (hl : l.length < a + 2 * bs) (h2 : a + bs < l.length) : ∃ P1 U V : List VRow, l = P1 ++ (U ++ (V ++ [])) ∧ P1.length = a ∧ U.length = bs ∧ 0 < V.length ∧ SortedF f U ∧ SortedF f V ∧
    ∀ M, Merged f U V M → Bks f (2 * bs) (P1 ++ (M ++ [])) := by
  obtain ⟨Cs, Bs, T, rfl, hC, hB, hT, ht, rfl⟩ := h
  simp only [List.length_append] at hl h2
  match Bs, hB, hl, h2 with
  | [], _, hl, h2 => simp at h2; omega
  | [B], hB, hl, h2 =>
    have h1 := hB.head
    simp at h2
    refine ⟨Cs.flatten, B, T, by simp [List.append_assoc], rfl, h1.2, by omega, h1.1, hT, fun M hM => ?_⟩
    have hlen := hM.len
    exact ⟨Cs, M, by simp, hC, hM.sorted, by omega⟩
  | B :: C :: Bs, hB, hl, h2 =>
    have h1 := hB.head
    have h3 := hB.tail.head
    simp at hl; omega
/-- .. or no more than a block. -/
theorem Mid.done {bs a : Nat} {l : List VRow} (h : Mid f bs a l) (h2 : l.length ≤ a + bs) (h0 : 0 < bs) : Bks f (2 * bs) l := by
  obtain ⟨Cs, Bs, T, rfl, hC, hB, hT, ht, rfl⟩ := h
  simp only [List.length_append] at h2
  have hs : Bks f bs (Bs.flatten ++ T) := ⟨Bs, T, rfl, hB, hT, ht⟩
  have := hs.all (by rw [List.length_append]; omega) h0
  exact ⟨Cs, Bs.flatten ++ T, rfl, hC, this, by rw [List.length_append]; omega⟩
/-- Blocks by insertion. -/
def Ins0 (f : VRow → Int) (bs a : Nat) (l : List VRow) : Prop := ∃ (Bs : List (List VRow)) (T : List VRow), l = Bs.flatten ++ T ∧ AllB f bs Bs ∧ Bs.flatten.length = a
theorem Ins0.step {bs a : Nat} {l : List VRow} (h : Ins0 f bs a l) (hl : a + bs ≤ l.length) : ∃ P1 X S : List VRow, l = P1 ++ (X ++ S) ∧ P1.length = a ∧ X.length = bs ∧ ∀ X', SortedF f X' → X'.length = bs → Ins0 f bs (a + bs) (P1 ++ (X' ++ S)) := by
  obtain ⟨Bs, T, rfl, hB, rfl⟩ := h
  rw [List.length_append] at hl
  refine ⟨Bs.flatten, T.take bs, T.drop bs, by rw [List.take_append_drop], rfl, by rw [List.length_take]; omega, fun X' h1 h2 => ⟨Bs ++ [X'], T.drop bs, by simp [List.append_assoc], hB.snoc h1 h2, by simp; omega⟩⟩
theorem Ins0.last {bs a : Nat} {l : List VRow} (h : Ins0 f bs a l) (hl : l.length < a + bs) : ∃ P1 X : List VRow, l = P1 ++ (X ++ []) ∧ P1.length = a ∧ a + X.length = l.length ∧ ∀ X', SortedF f X' → X'.length = X.length → Bks f bs (P1 ++ (X' ++ [])) := by
  obtain ⟨Bs, T, rfl, hB, rfl⟩ := h
  rw [List.length_append] at hl
  exact ⟨Bs.flatten, T, by simp, rfl, by simp, fun X' h1 h2 => ⟨Bs, X', by simp, hB, h1, by omega⟩⟩
end
end Go.Proofs.Ytlanghikmccmbaa
/- slices.stableCmpFunc at rows of a view. -/
namespace Go.Proofs.Ytlanghikmccmbaa
open Go.RowKit Go.Lib Go.Sort
set_option linter.unusedVariables false
set_option linter.unusedSimpArgs false
/-- The row is sorted, and what has one number stands as it stood. -/
structure StaRet (w0 w' : World) (e : Ending) (enc : VRow → List Value) (k blk off : Nat) (d : Array VRow) : Prop where
  out : e = .returned (.tuple #[]) ∧ ∃ (d' : Array VRow), d'.size = d.size ∧ SortedF VRow.offset d'.toList ∧ SameF VRow.offset d'.toList d.toList ∧ SWK enc k w0 blk off d' w'
/-- The contracts of the two callees. -/
structure StaUse (P : Program) (k : Nat) (enc : VRow → List Value) (g : Nat) (cb : Array Value) (blk off cap : Nat) (w0 : World) (size : Nat) : Prop where
  ins : ∀ (a b : Nat) (dk : Array VRow) (W : World) (P1 X S : List VRow), dk.size = size → SWK enc k w0 blk off dk W → dk.toList = P1 ++ (X ++ S) → P1.length = a → b = a + X.length →
    Calls P 89 #[.slice (some ⟨blk, off, none⟩) size cap, .int .i64 a, .int .i64 b, .func (.func g) #[] cb] W fun e w' => e = .returned (.tuple #[]) ∧ ∃ (d' : Array VRow) (X' : List VRow), d'.size = size ∧ d'.toList = P1 ++ (X' ++ S) ∧ SortedF VRow.offset X' ∧ X'.length = X.length ∧ SameF VRow.offset d'.toList dk.toList ∧ SWK enc k w0 blk off d' w'
  sym : ∀ (a m b : Nat) (dk : Array VRow) (W : World) (P1 U V S : List VRow), dk.size = size → SWK enc k w0 blk off dk W → dk.toList = P1 ++ (U ++ (V ++ S)) → P1.length = a → m = a + U.length → b = m + V.length → 0 < U.length → 0 < V.length → SortedF VRow.offset U → SortedF VRow.offset V →
    Calls P 90 #[.slice (some ⟨blk, off, none⟩) size cap, .int .i64 a, .int .i64 m, .int .i64 b, .func (.func g) #[] cb] W fun e w' => e = .returned (.tuple #[]) ∧ ∃ (d' : Array VRow) (M : List VRow), d'.size = size ∧ d'.toList = P1 ++ (M ++ S) ∧ Merged VRow.offset U V M ∧ SameF VRow.offset d'.toList dk.toList ∧ SWK enc k w0 blk off d' w'
end Go.Proofs.Ytlanghikmccmbaa
/- slices.SortStableFunc at a row of the call's own, by view.Since's comparison. -/
namespace Go.Proofs.Ytlanghikmccmbaa
open Go.ChangeShapes Go.WideShapes Go.ChangeAt Go.RowKit Go.Sort
set_option linter.unusedVariables false
set_option linter.unusedSimpArgs false
def cmpI (x y : Int) : Int := if x < y then -1 else if y < x then 1 else 0
def cmpO (x y : VRow) : Int := cmpI x.offset y.offset
/-- The rows, sorted by their offsets: what has one offset stands as it stood. -/
structure SsfRet (w w' : World) (e : Ending) (B g cap : Nat) (l : List VRow) : Prop where
  out : e = .returned (.tuple #[]) ∧ ∃ s : List VRow, s.length = l.length ∧ SortedF VRow.offset s ∧ SameF VRow.offset s l ∧ w'.ownsRow B 34 4 (.slice (some ⟨g, 0, none⟩) l.length cap) l.length (s.flatMap vrCells) ∧ w.grownBy w' (some g)
end Go.Proofs.Ytlanghikmccmbaa
