/- slices.symMergeCmpFunc at rows of a view, whole; insertion sort keeps what has one number as it stood; blocks. -/
import Derived.Test.YtlanghikmccmbaaSC
import Derived.Sort.LotA
import Derived.Shelf.SlSortCmp.PdqK
import Derived.Test.YtlanghikmccmbaaShelf
import Derived.Test.YtlanghikmccmbaaMI
import Derived.Test.YtlanghikmccmbaaVT
namespace Go.Proofs.Ytlanghikmccmbaa
open Go.RowKit Go.Lib Go.Sort
set_option linter.unusedVariables false
set_option linter.unusedSimpArgs false
theorem sym_any {P : Program} {k : Nat} (L : LayV P k) (enc : VRow → List Value) (cf : VRow → VRow → Int) (g : Nat) (cb : Array Value) (blk off cap : Nat) (d0 : Array VRow) (w0 : World)
    (HCM : CmpBy P g cb enc k cf blk off d0.size w0) (R : RowK enc k w0 blk off d0) (hsz : d0.size < 4611686018427387904) :
    ∀ (N a m b : Nat) (d : Array VRow) (w : World) (P1 U V S : List VRow), b - a ≤ N → d0.size = d.size → SWK enc k w0 blk off d w → d.toList = P1 ++ (U ++ (V ++ S)) → a = P1.length → m = a + U.length → b = m + V.length → 0 < U.length → 0 < V.length → SortedF VRow.offset U → SortedF VRow.offset V →
      Calls P 90 (symArgs blk off d.size cap a m b g cb) w fun e w' => SymRet w0 w' e enc k blk off P1 U V S d.size := by
  intro N
  induction N with
  | zero => intro a m b d w P1 U V S h0 h1 h2 h3 h4 h5 h6 h7 h8 h9 h10; exfalso; omega
  | succ N ih =>
    intro a m b d w P1 U V S h0 h1 h2 h3 h4 h5 h6 h7 h8 h9 h10
    by_cases u1 : U.length = 1
    · obtain ⟨x, rfl⟩ := List.length_eq_one_iff.1 u1
      exact sym_one L enc cf g cb blk off cap a m b d0 d w0 w P1 V S x HCM R h1 h2 (by simpa using h3) h4 (by simpa using h5) h6 h10 (by omega)
    · by_cases v1 : V.length = 1
      · obtain ⟨y, rfl⟩ := List.length_eq_one_iff.1 v1
        exact sym_two L enc cf g cb blk off cap a m b d0 d w0 w P1 U S y HCM R h1 h2 (by simpa using h3) h4 h5 (by simpa using h6) u1 h9 (by omega)
      · refine sym_gen L enc cf g cb blk off cap a m b d0 d w0 w P1 U V S HCM R h1 h2 h3 h4 h5 h6 (by omega) (by omega) h9 h10 (by omega) ?_
        intro a' m' b' dk W P' U' V' S' g0 g1 g2 g3 g4 g5 g6 g7 g8 g9 g10
        have := ih a' m' b' dk W P' U' V' S' (by omega) (by omega) g2 g3 g4 g5 g6 g7 g8 g9 g10
        rwa [g1] at this
/-! insertion sort -/
theorem gl {d : Array VRow} {i : Nat} (h : i < d.size) : d.toList[i]? = some d[i]! := by
  rw [Array.getElem?_toList, Array.getElem?_eq_getElem h, getElem!_pos d i h]
theorem swp_same {f : VRow → Int} (d : Array VRow) (j : Nat) (hj : j + 1 < d.size) (hne : f d[j + 1]! ≠ f d[j]!) : SameF f (swp d (j + 1) j).toList d.toList := by
  have hl : d.toList.length = d.size := Array.length_toList
  have e : d.toList = d.toList.take j ++ (d[j]! :: ([] ++ (d[j + 1]! :: d.toList.drop (j + 2)))) := by
    conv => lhs; rw [← List.take_append_drop j d.toList]
    congr 1
    rw [List.drop_eq_getElem_cons (by omega), List.drop_eq_getElem_cons (by omega)]
    have e1 := gl (d := d) (i := j) (by omega)
    have e2 := gl (d := d) (i := j + 1) (by omega)
    rw [List.getElem?_eq_getElem (by omega)] at e1
    rw [List.getElem?_eq_getElem (by omega)] at e2
    rw [Option.some.inj e1, Option.some.inj e2]; rfl
  rw [swp_comm' _ (by omega), swp_list d _ [] _ d[j]! d[j + 1]! e (i := j) (j := j + 1) (by rw [List.length_take]; omega) (by rw [List.length_take]; simp; omega)]
  conv => rhs; rw [e]
  have h := SameF.swap (f := f) (a := [d[j + 1]!]) (b := [d[j]!]) (by simpa using hne)
  have h2 := (SameF.refl (f := f) (d.toList.take j)).append (h.append (SameF.refl (f := f) (d.toList.drop (j + 2))))
  simpa using h2
theorem insInner_same {f : VRow → Int} {lt : VRow → VRow → Bool} (hlt : ∀ x y, lt x y = true → f x ≠ f y) (a : Nat) : ∀ (j : Nat) (d : Array VRow), j < d.size → SameF f (insInner lt a j d).toList d.toList ∧ (insInner lt a j d).size = d.size
  | 0, d, _ => by unfold insInner; exact ⟨SameF.refl _, rfl⟩
  | j + 1, d, h => by
    unfold insInner
    split
    · next hc =>
      simp only [Bool.and_eq_true] at hc
      have ih := insInner_same hlt a j (swp d (j + 1) j) (by rw [swp_size]; omega)
      exact ⟨ih.1.trans (swp_same d j h (hlt _ _ hc.2)), by rw [ih.2, swp_size]⟩
    · exact ⟨SameF.refl _, rfl⟩
theorem insOuter_same {f : VRow → Int} {lt : VRow → VRow → Bool} (hlt : ∀ x y, lt x y = true → f x ≠ f y) (a b : Nat) : ∀ (n i : Nat) (d : Array VRow), b - i ≤ n → b ≤ d.size → SameF f (insOuter lt a b i d).toList d.toList ∧ (insOuter lt a b i d).size = d.size
  | 0, i, d, h, hb => by unfold insOuter; rw [if_neg (by omega)]; exact ⟨SameF.refl _, rfl⟩
  | n + 1, i, d, h, hb => by
    unfold insOuter
    split
    · next hc =>
      have h1 := insInner_same hlt a i d (by omega)
      have h2 := insOuter_same hlt a b n (i + 1) (insInner lt a i d) (by omega) (by rw [h1.2]; exact hb)
      exact ⟨h2.1.trans h1.1, by rw [h2.2, h1.2]⟩
    · exact ⟨SameF.refl _, rfl⟩
theorem swo_by {f : VRow → Int} {lt : VRow → VRow → Bool} (h : ∀ x y, lt x y = true ↔ f x < f y) : SWO lt := by
  have h' : ∀ x y, lt x y = false ↔ f y ≤ f x := fun x y => by rw [← Bool.not_eq_true, h]; omega
  exact ⟨fun x => (h' _ _).2 (Int.le_refl _), fun x y z a b => (h _ _).2 (by have := (h _ _).1 a; have := (h _ _).1 b; omega), fun x y z a b => (h' _ _).2 (by have := (h' _ _).1 a; have := (h' _ _).1 b; omega)⟩
theorem same_mid {f : VRow → Int} {P1 X X' S : List VRow} (h : SameF f (P1 ++ (X' ++ S)) (P1 ++ (X ++ S))) : SameF f X' X := fun k => by
  have := h k
  simp only [List.filter_append] at this
  exact List.append_cancel_right (List.append_cancel_left this)
theorem ins_seg {f : VRow → Int} {lt : VRow → VRow → Bool} (hb : ∀ x y, lt x y = true ↔ f x < f y) {d : Array VRow} {a b : Nat} {P1 X S : List VRow} (hd : d.toList = P1 ++ (X ++ S)) (ha : a = P1.length) (hbb : b = a + X.length) :
    ∃ X', (insertionSort lt d a b).toList = P1 ++ (X' ++ S) ∧ SortedF f X' ∧ SameF f X' X ∧ X'.length = X.length ∧ (insertionSort lt d a b).size = d.size := by
  have hl : d.size = P1.length + (X.length + S.length) := by rw [← Array.length_toList, hd]; simp
  have h := insertionSort_holds (swo_by hb) d a b (by omega) (by omega)
  have hsm : SameF f (insertionSort lt d a b).toList d.toList := (insOuter_same (fun x y e => by have := (hb x y).1 e; omega) a b (b - (a + 1)) (a + 1) d (Nat.le_refl _) (by omega)).1
  generalize insertionSort lt d a b = d' at h hsm ⊢
  obtain ⟨⟨hs, ho, -⟩, hso⟩ := h
  have hl' : d'.toList.length = d.size := by rw [Array.length_toList, hs]
  have hll : d.toList.length = d.size := Array.length_toList
  have e1 : d'.toList.take a = P1 := by
    have : d'.toList.take a = d.toList.take a := by
      apply List.ext_getElem? ; intro i
      rw [List.getElem?_take, List.getElem?_take]
      split
      · rw [gl (by omega), gl (by omega), ho i (by omega)]
      · rfl
    rw [this, hd, ha, List.take_left]
  have e2 : d'.toList.drop b = S := by
    have : d'.toList.drop b = d.toList.drop b := by
      apply List.ext_getElem? ; intro i
      rw [List.getElem?_drop, List.getElem?_drop]
      by_cases hi : b + i < d.size
      · rw [gl (by omega), gl (by omega), ho (b + i) (by omega)]
      · rw [List.getElem?_eq_none (by omega), List.getElem?_eq_none (by omega)]
    rw [this, hd, ← List.append_assoc, List.drop_append_of_le_length (by simp; omega), List.drop_of_length_le (by simp; omega), List.nil_append]
  have e3 : d'.toList = P1 ++ ((d'.toList.drop a).take (b - a) ++ S) := by
    have := seg4 d'.toList a b b (by omega) (Nat.le_refl _)
    rw [e1, e2] at this
    simpa using this
  refine ⟨(d'.toList.drop a).take (b - a), e3, ?_, ?_, by rw [List.length_take, List.length_drop]; omega, hs⟩
  · refine List.pairwise_iff_getElem.2 fun i j hi hj hij => ?_
    rw [List.length_take, List.length_drop] at hi hj
    have k1 := gl (d := d') (i := a + i) (by omega)
    have k2 := gl (d := d') (i := a + j) (by omega)
    rw [List.getElem?_eq_getElem (by omega)] at k1 k2
    rw [List.getElem_take, List.getElem_drop, List.getElem_take, List.getElem_drop, Option.some.inj k1, Option.some.inj k2]
    have h2 := hso (a + i) (a + j) (by omega) (by omega) (by omega)
    have h3 : ¬ f d'[a + j]! < f d'[a + i]! := fun c => by rw [(hb _ _).2 c] at h2; cases h2
    omega
  · rw [e3, hd] at hsm
    exact same_mid hsm
/-! blocks -/
section
variable {f : VRow → Int}
/-- Sorted blocks of one length. -/
def AllB (f : VRow → Int) (bs : Nat) (Bs : List (List VRow)) : Prop := ∀ B ∈ Bs, SortedF f B ∧ B.length = bs
theorem AllB.nil {bs : Nat} : AllB f bs [] := fun _ h => by cases h
theorem AllB.snoc {bs : Nat} {Bs : List (List VRow)} {B : List VRow} (h : AllB f bs Bs) (h1 : SortedF f B) (h2 : B.length = bs) : AllB f bs (Bs ++ [B]) := fun C hC => by
  rcases List.mem_append.1 hC with h3 | h3
  · exact h C h3
  · rw [List.mem_singleton] at h3; subst h3; exact ⟨h1, h2⟩
theorem AllB.tail {bs : Nat} {Bs : List (List VRow)} {B : List VRow} (h : AllB f bs (B :: Bs)) : AllB f bs Bs := fun C hC => h C (List.mem_cons_of_mem _ hC)
theorem AllB.head {bs : Nat} {Bs : List (List VRow)} {B : List VRow} (h : AllB f bs (B :: Bs)) : SortedF f B ∧ B.length = bs := h B (List.mem_cons_self ..)
def Bks (f : VRow → Int) (bs : Nat) (l : List VRow) : Prop := ∃ (Bs : List (List VRow)) (T : List VRow), l = Bs.flatten ++ T ∧ AllB f bs Bs ∧ SortedF f T ∧ T.length < bs
theorem Bks.all {bs : Nat} {l : List VRow} (h : Bks f bs l) (hl : l.length ≤ bs) (h0 : 0 < bs) : SortedF f l := by
  obtain ⟨Bs, T, rfl, hB, hT, ht⟩ := h
  rw [List.length_append] at hl
  match Bs, hB, hl with
  | [], _, _ => exact hT
  | [B], hB, hl =>
    have := hB.head
    simp only [List.flatten_cons, List.flatten_nil, List.append_nil] at hl ⊢
    obtain rfl : T = [] := List.length_eq_zero_iff.1 (by omega)
    rw [List.append_nil]; exact this.1
  | B :: C :: Bs, hB, hl =>
    have h1 := hB.head
    have h2 := hB.tail.head
    simp only [List.flatten_cons, List.length_append] at hl
    omega
/-- In the midst of a merge of blocks. -/
def Mid (f : VRow → Int) (bs a : Nat) (l : List VRow) : Prop := ∃ (Cs Bs : List (List VRow)) (T : List VRow), l = Cs.flatten ++ (Bs.flatten ++ T) ∧ AllB f (2 * bs) Cs ∧ AllB f bs Bs ∧ SortedF f T ∧ T.length < bs ∧ Cs.flatten.length = a
theorem Mid.start {bs : Nat} {l : List VRow} (h : Bks f bs l) : Mid f bs 0 l := by
  obtain ⟨Bs, T, rfl, hB, hT, ht⟩ := h
  exact ⟨[], Bs, T, rfl, AllB.nil, hB, hT, ht, rfl⟩
/-- Two blocks more. -/
theorem Mid.two {bs a : Nat} {l : List VRow} (h : Mid f bs a l) (hl : a + 2 * bs ≤ l.length) : ∃ P1 U V S : List VRow, l = P1 ++ (U ++ (V ++ S)) ∧ P1.length = a ∧ U.length = bs ∧ V.length = bs ∧ SortedF f U ∧ SortedF f V ∧
    ∀ M, Merged f U V M → Mid f bs (a + 2 * bs) (P1 ++ (M ++ S)) := by
  obtain ⟨Cs, Bs, T, rfl, hC, hB, hT, ht, rfl⟩ := h
  simp only [List.length_append] at hl
  match Bs, hB, hl with
  | [], _, hl => simp at hl; omega
  | [B], hB, hl => have := hB.head; simp at hl; omega
  | B :: C :: Bs, hB, hl =>
    have h1 := hB.head
    have h2 := hB.tail.head
    refine ⟨Cs.flatten, B, C, Bs.flatten ++ T, by simp [List.append_assoc], rfl, h1.2, h2.2, h1.1, h2.1, fun M hM => ?_⟩
    have hlen := hM.len
    refine ⟨Cs ++ [M], Bs, T, by simp [List.append_assoc], hC.snoc hM.sorted (by omega), hB.tail.tail, hT, ht, by simp; omega⟩
/-- The last: one block, and a rest. -/
theorem Mid.rest {bs a : Nat} {l : List VRow} (h : Mid f bs a l) (hl : l.length < a + 2 * bs) (h2 : a + bs < l.length) : ∃ P1 U V : List VRow, l = P1 ++ (U ++ (V ++ [])) ∧ P1.length = a ∧ U.length = bs ∧ 0 < V.length ∧ SortedF f U ∧ SortedF f V ∧
    ∀ M, Merged f U V M → Bks f (2 * bs) (P1 ++ (M ++ [])) := by
  obtain ⟨Cs, Bs, T, rfl, hC, hB, hT, ht, rfl⟩ := h
  simp only [List.length_append] at hl h2
  match Bs, hB, hl, h2 with
  | [], _, hl, h2 => simp at h2; omega
  | [B], hB, hl, h2 =>
    have h1 := hB.head
    simp at h2
    refine ⟨Cs.flatten, B, T, by simp [List.append_assoc], rfl, h1.2, by omega, h1.1, hT, fun M hM => ?_⟩
    have hlen := hM.len
    exact ⟨Cs, M, by simp, hC, hM.sorted, by omega⟩
  | B :: C :: Bs, hB, hl, h2 =>
    have h1 := hB.head
    have h3 := hB.tail.head
    simp at hl; omega
/-- .. or no more than a block. -/
theorem Mid.done {bs a : Nat} {l : List VRow} (h : Mid f bs a l) (h2 : l.length ≤ a + bs) (h0 : 0 < bs) : Bks f (2 * bs) l := by
  obtain ⟨Cs, Bs, T, rfl, hC, hB, hT, ht, rfl⟩ := h
  simp only [List.length_append] at h2
  have hs : Bks f bs (Bs.flatten ++ T) := ⟨Bs, T, rfl, hB, hT, ht⟩
  have := hs.all (by rw [List.length_append]; omega) h0
  exact ⟨Cs, Bs.flatten ++ T, rfl, hC, this, by rw [List.length_append]; omega⟩
/-- Blocks by insertion. -/
def Ins0 (f : VRow → Int) (bs a : Nat) (l : List VRow) : Prop := ∃ (Bs : List (List VRow)) (T : List VRow), l = Bs.flatten ++ T ∧ AllB f bs Bs ∧ Bs.flatten.length = a
theorem Ins0.step {bs a : Nat} {l : List VRow} (h : Ins0 f bs a l) (hl : a + bs ≤ l.length) : ∃ P1 X S : List VRow, l = P1 ++ (X ++ S) ∧ P1.length = a ∧ X.length = bs ∧ ∀ X', SortedF f X' → X'.length = bs → Ins0 f bs (a + bs) (P1 ++ (X' ++ S)) := by
  obtain ⟨Bs, T, rfl, hB, rfl⟩ := h
  rw [List.length_append] at hl
  refine ⟨Bs.flatten, T.take bs, T.drop bs, by rw [List.take_append_drop], rfl, by rw [List.length_take]; omega, fun X' h1 h2 => ⟨Bs ++ [X'], T.drop bs, by simp [List.append_assoc], hB.snoc h1 h2, by simp; omega⟩⟩
theorem Ins0.last {bs a : Nat} {l : List VRow} (h : Ins0 f bs a l) (hl : l.length < a + bs) : ∃ P1 X : List VRow, l = P1 ++ (X ++ []) ∧ P1.length = a ∧ a + X.length = l.length ∧ ∀ X', SortedF f X' → X'.length = X.length → Bks f bs (P1 ++ (X' ++ [])) := by
  obtain ⟨Bs, T, rfl, hB, rfl⟩ := h
  rw [List.length_append] at hl
  exact ⟨Bs.flatten, T, by simp, rfl, by simp, fun X' h1 h2 => ⟨Bs, X', by simp, hB, h1, by omega⟩⟩
end
end Go.Proofs.Ytlanghikmccmbaa
/- slices.stableCmpFunc at rows of a view. -/
namespace Go.Proofs.Ytlanghikmccmbaa
open Go.RowKit Go.Lib Go.Sort
set_option linter.unusedVariables false
set_option linter.unusedSimpArgs false
/-- The row is sorted, and what has one number stands as it stood. -/
structure StaRet (w0 w' : World) (e : Ending) (enc : VRow → List Value) (k blk off : Nat) (d : Array VRow) : Prop where
  out : e = .returned (.tuple #[]) ∧ ∃ (d' : Array VRow), d'.size = d.size ∧ SortedF VRow.offset d'.toList ∧ SameF VRow.offset d'.toList d.toList ∧ SWK enc k w0 blk off d' w'
/-- The contracts of the two callees. -/
structure StaUse (P : Program) (k : Nat) (enc : VRow → List Value) (g : Nat) (cb : Array Value) (blk off cap : Nat) (w0 : World) (size : Nat) : Prop where
  ins : ∀ (a b : Nat) (dk : Array VRow) (W : World) (P1 X S : List VRow), dk.size = size → SWK enc k w0 blk off dk W → dk.toList = P1 ++ (X ++ S) → P1.length = a → b = a + X.length →
    Calls P 89 #[.slice (some ⟨blk, off, none⟩) size cap, .int .i64 a, .int .i64 b, .func (.func g) #[] cb] W fun e w' => e = .returned (.tuple #[]) ∧ ∃ (d' : Array VRow) (X' : List VRow), d'.size = size ∧ d'.toList = P1 ++ (X' ++ S) ∧ SortedF VRow.offset X' ∧ X'.length = X.length ∧ SameF VRow.offset d'.toList dk.toList ∧ SWK enc k w0 blk off d' w'
  sym : ∀ (a m b : Nat) (dk : Array VRow) (W : World) (P1 U V S : List VRow), dk.size = size → SWK enc k w0 blk off dk W → dk.toList = P1 ++ (U ++ (V ++ S)) → P1.length = a → m = a + U.length → b = m + V.length → 0 < U.length → 0 < V.length → SortedF VRow.offset U → SortedF VRow.offset V →
    Calls P 90 #[.slice (some ⟨blk, off, none⟩) size cap, .int .i64 a, .int .i64 m, .int .i64 b, .func (.func g) #[] cb] W fun e w' => e = .returned (.tuple #[]) ∧ ∃ (d' : Array VRow) (M : List VRow), d'.size = size ∧ d'.toList = P1 ++ (M ++ S) ∧ Merged VRow.offset U V M ∧ SameF VRow.offset d'.toList dk.toList ∧ SWK enc k w0 blk off d' w'
theorem staUse {P : Program} {k : Nat} {ρ : Go.Shelf.Ren} (L : LayV P k) (LI : SlLaysF0.n20 P ρ) (hρ : ρ.f 20 = 89) (hρt : ρ.t 24 = 34) (enc : VRow → List Value) (cf : VRow → VRow → Int) (g : Nat) (cb : Array Value) (blk off cap : Nat) (d0 : Array VRow) (w0 : World)
    (HCM : CmpBy P g cb enc k cf blk off d0.size w0) (R : RowK enc k w0 blk off d0) (hsz : d0.size < 1152921504606846976) : StaUse P k enc g cb blk off cap w0 d0.size := by
  constructor
  · intro a b dk W P1 X S h1 h2 h3 h4 h5
    have hb : ∀ x y, ltOf cf x y = true ↔ x.offset < y.offset := fun x y => by unfold ltOf; rw [decide_eq_true_iff]; exact HCM.by' x y
    have hl : dk.size = P1.length + (X.length + S.length) := by rw [← Array.length_toList, h3]; simp
    obtain ⟨X', g1, g2, g3, g4, g5⟩ := ins_seg (f := VRow.offset) (lt := ltOf cf) hb h3 h4.symm h5
    have := AnyQ.insertionSortCmpFunc_w LI k (by rw [hρt]; exact L.aE) (by rw [hρt]; exact L.zE) enc cf g cb blk off cap a b d0 dk w0 W HCM.enter HCM.lays R h1.symm h2 (swo_by hb) (by omega) (by omega) (by omega)
    rw [hρ, h1] at this
    refine this.mono ?_
    rintro e w' ⟨rfl, hS⟩
    exact ⟨rfl, _, X', by omega, g1, g2, g4, by rw [g1, h3]; exact (SameF.refl _).append (g3.append (SameF.refl _)), hS⟩
  · intro a m b dk W P1 U V S h1 h2 h3 h4 h5 h6 h7 h8 h9 h10
    have := sym_any L enc cf g cb blk off cap d0 w0 HCM R (by omega) (b - a) a m b dk W P1 U V S (Nat.le_refl _) h1.symm h2 h3 h4.symm h5 h6 h7 h8 h9 h10
    unfold symArgs at this
    rw [h1] at this
    refine this.mono ?_
    rintro e w' ⟨rfl, d', M, g1, g2, g3, g4⟩
    exact ⟨rfl, d', M, g1, g2, g3, by rw [g2, h3]; exact (SameF.refl _).append (by rw [← List.append_assoc U]; exact g3.same.append (SameF.refl _)), g4⟩
set_option maxHeartbeats 8000000 in
set_option maxRecDepth 1000000 in
theorem stable_any {P : Program} {k : Nat} (L : LayV P k) (F : P.funcs[68]? = some Try.f68) (FI : ∀ args w, (callFunc 89 args).run P w = .ok (.enter 89 args) w) (enc : VRow → List Value) (g : Nat) (cb : Array Value) (blk off cap : Nat) (d : Array VRow) (w0 w : World)
    (US : StaUse P k enc g cb blk off cap w0 d.size) (SS : SWK enc k w0 blk off d w) (hsz : d.size < 1152921504606846976) :
    Calls P 68 #[.slice (some ⟨blk, off, none⟩) d.size cap, .int .i64 d.size, .func (.func g) #[] cb] w fun e w' => StaRet w0 w' e enc k blk off d := by
  have esy : ∀ args w, (callFunc 90 args).run P w = .ok (.enter 90 args) w := enters_of L.fsy (by kernel_rfl) rfl
  have HIN := Lib.hid US.ins
  have HSY := Lib.hid US.sym
  have S0 : Aside (SWK enc k w0 blk off d w) := SS
  obtain ⟨n, hn⟩ : ∃ n, d.size = n := ⟨_, rfl⟩
  have HN := Lib.hid hn
  rw [hn] at hsz HIN HSY
  rw [hn]
  clear US SS hn
  have mixed := L.mixed
  have t0 := L.t0
  have a0 := L.a0
  have z0 := L.z0
  have v0 := L.v0
  have t3 := L.t3
  have a3 := L.a3
  have z3 := L.z3
  have v3 := L.v3
  have t4 := L.t4
  have a4 := L.a4
  have z4 := L.z4
  have v4 := L.v4
  have tU := L.tU
  have aU := L.aU
  have zU := L.zU
  have vU := L.vU
  have tS := L.tS
  have aS := L.aS
  have zS := L.zS
  have vS := L.vS
  have tF := L.tF
  have aF := L.aF
  have zF := L.zF
  have vF := L.vF
  have aE := L.aE
  have zE := L.zE
  go_enter F, Try.ntmps68
  go_wp2
  go_loopg [7, 8] n (fun gg s7 s8 wr => ∃ (a q : Nat) (dk : Array VRow), s7 = .int .i64 a ∧ s8 = .int .i64 q ∧ q ≤ a + 20 ∧ a + 20 ≤ q ∧ a ≤ n ∧ n - a ≤ gg ∧ Aside (SWK enc k w0 blk off dk wr) ∧ Hid (dk.size = n ∧ Ins0 VRow.offset 20 a dk.toList ∧ SameF VRow.offset dk.toList d.toList))
  case atStart => exact ⟨0, 20, d, rfl, rfl, Nat.le_refl _, Nat.le_refl _, Nat.zero_le _, Nat.le_refl _, S0, Lib.hid ⟨HN.out, ⟨[], d.toList, rfl, AllB.nil, rfl⟩, SameF.refl _⟩⟩
  case round =>
    clear S0
    obtain ⟨a, q, dk, rfl, rfl, hq1, hq2, han, hg, S1, HT⟩ := hrel
    by_cases hlt : q ≤ n
    · have hltz : (q : Int) ≤ (n : Int) := by omega
      obtain ⟨P1, X, S, h1, h2, h3, h4⟩ := HT.out.2.1.step (by rw [Array.length_toList, HT.out.1]; omega)
      have hcall := HIN.out a q dk wr P1 X S HT.out.1 S1.out h1 h2 (by omega)
      have HC := Lib.hid hcall
      have H4 := Lib.hid (And.intro h3 h4)
      clear hcall h1 h2 h3 h4 S1
      go_wp2_with (go_at_fn 89; refine HC.out.mono ?_; rintro e w' ⟨rfl, d', X', g1, g2, g3, g4, g5, g6⟩)
      have HD := Lib.hid (show d'.size = n ∧ d'.toList = P1 ++ (X' ++ S) ∧ SortedF VRow.offset X' ∧ X'.length = X.length ∧ SameF VRow.offset d'.toList dk.toList ∧ SWK enc k w0 blk off d' w' from ⟨g1, g2, g3, g4, g5, g6⟩)
      clear g1 g2 g3 g4 g5 g6 HC
      go_wp2
      go_roundg (n - q)
      case measure => omega
      case rel =>
        obtain ⟨g1, g2, g3, g4, g5, g6⟩ := HD.out
        exact ⟨q, q + 20, d', rfl, by first | rfl | go_num | (congr 1; omega), Nat.le_refl _, Nat.le_refl _, hlt, Nat.le_refl _, g6, Lib.hid ⟨g1, by rw [g2, show q = a + 20 by omega]; exact H4.out.2 X' g3 (by rw [g4, H4.out.1]), g5.trans HT.out.2.2⟩⟩
    · have hltz : ¬ (q : Int) ≤ (n : Int) := by omega
      obtain ⟨P1, X, h1, h2, h3, h4⟩ := HT.out.2.1.last (by rw [Array.length_toList, HT.out.1]; omega)
      have hcall := HIN.out a n dk wr P1 X [] HT.out.1 S1.out h1 h2 (by rw [h3, Array.length_toList, HT.out.1])
      have HC := Lib.hid hcall
      have H4 := Lib.hid h4
      clear hcall h1 h2 h3 h4 S1
      go_wp2_with (go_at_fn 89; refine HC.out.mono ?_; rintro e w' ⟨rfl, d', X', g1, g2, g3, g4, g5, g6⟩)
      have HD := Lib.hid (show d'.size = n ∧ Bks VRow.offset 20 d'.toList ∧ SameF VRow.offset d'.toList d.toList from ⟨g1, by rw [g2]; exact H4.out X' g3 g4, g5.trans HT.out.2.2⟩)
      have S2 : Aside (SWK enc k w0 blk off d' w') := g6
      clear g1 g2 g3 g4 g5 g6 HC HT H4 HIN
      go_wp2
      go_loopg [6] n (fun gg s6 wq => ∃ (bs : Nat) (dk : Array VRow), s6 = .int .i64 bs ∧ 20 ≤ bs ∧ bs ≤ 2 * n + 20 ∧ n - bs ≤ gg ∧ Aside (SWK enc k w0 blk off dk wq) ∧ Hid (dk.size = n ∧ Bks VRow.offset bs dk.toList ∧ SameF VRow.offset dk.toList d.toList))
      case atStart => exact ⟨20, d', rfl, Nat.le_refl _, by omega, by omega, S2, HD⟩
      case round =>
        clear S2 HD
        obtain ⟨bs, dk, rfl, hb1, hb2, hg2, S1, HT⟩ := hrel
        by_cases hlb : bs < n
        · have hlbz : (bs : Int) < (n : Int) := by omega
          obtain ⟨b2, hb2z⟩ : ∃ b2, 2 * bs = b2 := ⟨_, rfl⟩
          have hz2 : (2 : Int) * (bs : Int) = (b2 : Int) := by omega
          have hz3 : (bs : Int) * 2 = (b2 : Int) := by omega
          have hb3 : b2 ≤ 2 * bs := by omega
          have hb4 : 2 * bs ≤ b2 := by omega
          have HB := Lib.hid (show 2 * bs = b2 from hb2z)
          clear hb2z
          go_wp2
          go_loopg [7, 8] n (fun gg s7 s8 wx => ∃ (a q : Nat) (dm : Array VRow), s7 = .int .i64 a ∧ s8 = .int .i64 q ∧ q ≤ a + b2 ∧ a + b2 ≤ q ∧ a ≤ n ∧ n - a ≤ gg ∧ Aside (SWK enc k w0 blk off dm wx) ∧ Hid (dm.size = n ∧ Mid VRow.offset bs a dm.toList ∧ SameF VRow.offset dm.toList d.toList))
          case atStart => exact ⟨0, b2, dk, rfl, rfl, by omega, by omega, Nat.zero_le _, Nat.le_refl _, S1, Lib.hid ⟨HT.out.1, Mid.start HT.out.2.1, HT.out.2.2⟩⟩
          case round =>
            clear S1 HT
            obtain ⟨a, q, dm, rfl, rfl, hq3, hq4, han2, hg3, S3, HM⟩ := hrel
            obtain ⟨m, hm⟩ : ∃ m, a + bs = m := ⟨_, rfl⟩
            have hmz : (a : Int) + (bs : Int) = (m : Int) := by omega
            have hm1 : m ≤ a + bs := by omega
            have hm2 : a + bs ≤ m := by omega
            clear hm
            by_cases hlq : q ≤ n
            · have hlqz : (q : Int) ≤ (n : Int) := by omega
              obtain ⟨P1, U, V, S, h1, h2, h3, h4, h5, h6, h7⟩ := HM.out.2.1.two (by rw [Array.length_toList, HM.out.1]; omega)
              have hcall := HSY.out a m q dm wr P1 U V S HM.out.1 S3.out h1 h2 (by omega) (by omega) (by omega) (by omega) h5 h6
              have HC := Lib.hid hcall
              have H7 := Lib.hid h7
              clear hcall h1 h2 h3 h4 h5 h6 h7 S3
              go_wp2_with (go_at_fn 90; refine HC.out.mono ?_; rintro e w' ⟨rfl, d', M, g1, g2, g3, g4, g5⟩)
              have HD := Lib.hid (show d'.size = n ∧ d'.toList = P1 ++ (M ++ S) ∧ Merged VRow.offset U V M ∧ SameF VRow.offset d'.toList dm.toList ∧ SWK enc k w0 blk off d' w' from ⟨g1, g2, g3, g4, g5⟩)
              clear g1 g2 g3 g4 g5 HC
              go_wp2
              go_roundg (n - q)
              case measure => omega
              case rel =>
                obtain ⟨g1, g2, g3, g4, g5⟩ := HD.out
                exact ⟨q, q + b2, d', rfl, by first | rfl | go_num | (congr 1; omega), Nat.le_refl _, Nat.le_refl _, hlq, Nat.le_refl _, g5, Lib.hid ⟨g1, by rw [g2, show q = a + 2 * bs by omega]; exact H7.out M g3, g4.trans HM.out.2.2⟩⟩
            · have hlqz : ¬ (q : Int) ≤ (n : Int) := by omega
              by_cases hlm : m < n
              · have hlmz : (m : Int) < (n : Int) := by omega
                obtain ⟨P1, U, V, h1, h2, h3, h4, h5, h6, h7⟩ := HM.out.2.1.rest (by rw [Array.length_toList, HM.out.1]; omega) (by rw [Array.length_toList, HM.out.1]; omega)
                have hlen : n = a + (bs + V.length) := by rw [← HM.out.1, ← Array.length_toList, h1]; simp; omega
                have hcall := HSY.out a m n dm wr P1 U V [] HM.out.1 S3.out h1 h2 (by omega) (by omega) (by omega) (by omega) h5 h6
                have HC := Lib.hid hcall
                have H7 := Lib.hid h7
                clear hcall h1 h2 h3 h4 h5 h6 h7 S3 hlen
                go_wp2_with (go_at_fn 90; refine HC.out.mono ?_; rintro e w' ⟨rfl, d', M, g1, g2, g3, g4, g5⟩)
                have HD := Lib.hid (show d'.size = n ∧ d'.toList = P1 ++ (M ++ []) ∧ Merged VRow.offset U V M ∧ SameF VRow.offset d'.toList dm.toList ∧ SWK enc k w0 blk off d' w' from ⟨g1, g2, g3, g4, g5⟩)
                clear g1 g2 g3 g4 g5 HC
                go_wp2
                go_roundg (n - b2)
                case measure => omega
                case rel =>
                  obtain ⟨g1, g2, g3, g4, g5⟩ := HD.out
                  exact ⟨b2, d', rfl, by omega, by omega, Nat.le_refl _, g5, Lib.hid ⟨g1, by rw [g2, ← HB.out]; exact H7.out M g3, g4.trans HM.out.2.2⟩⟩
              · have hlmz : ¬ (m : Int) < (n : Int) := by omega
                go_wp2
                go_roundg (n - b2)
                case measure => omega
                case rel => exact ⟨b2, dm, rfl, by omega, by omega, Nat.le_refl _, S3, Lib.hid ⟨HM.out.1, by rw [← HB.out]; exact HM.out.2.1.done (by rw [Array.length_toList, HM.out.1]; omega) (by omega), HM.out.2.2⟩⟩
        · have hlbz : ¬ (bs : Int) < (n : Int) := by omega
          go_wp2
          go_end0
          exact ⟨rfl, dk, HT.out.1.trans HN.out.symm, HT.out.2.1.all (by rw [Array.length_toList, HT.out.1]; omega) (by omega), HT.out.2.2, S1.out⟩
end Go.Proofs.Ytlanghikmccmbaa
/- slices.SortStableFunc at a row of the call's own, by view.Since's comparison. -/
namespace Go.Proofs.Ytlanghikmccmbaa
open Go.ChangeShapes Go.WideShapes Go.ChangeAt Go.RowKit Go.Sort
set_option linter.unusedVariables false
set_option linter.unusedSimpArgs false
def cmpI (x y : Int) : Int := if x < y then -1 else if y < x then 1 else 0
def cmpO (x y : VRow) : Int := cmpI x.offset y.offset
theorem cmpO_by (x y : VRow) : cmpO x y < 0 ↔ x.offset < y.offset := by
  unfold cmpO cmpI
  split
  · next h => exact ⟨fun _ => h, fun _ => by decide⟩
  · next h => split <;> omega
set_option maxRecDepth 100000 in
theorem nan_any (x : Int) (w : World) : Calls Try.prog 69 #[.int .i64 x] w fun e w' => e = .returned (.bool false) ∧ w' = w := by
  have hx : (x != x) = false := by simp
  go_enter Try.func69, Try.ntmps69
  go_wp2
  go_ret
  exact ⟨rfl, rfl⟩
set_option maxRecDepth 100000 in
theorem ccmp_any (x y : Int) (w : World) : Calls Try.prog 41 #[.int .i64 x, .int .i64 y] w fun e w' => e = .returned (.int .i64 (cmpI x y)) ∧ w' = w := by
  have HX := Lib.hid (nan_any x w)
  have HY := Lib.hid (nan_any y w)
  by_cases h1 : x < y
  · have hr : cmpI x y = -1 := by unfold cmpI; rw [if_pos h1]
    rw [hr]
    go_enter Try.func41, Try.ntmps41
    go_wp2_with (go_at_call 69; refine HX.out.mono ?_; rintro e w' ⟨rfl, rfl⟩)
    go_wp2_with (go_at_call 69; refine HY.out.mono ?_; rintro e w' ⟨rfl, rfl⟩)
    go_wp2
    go_ret
    exact ⟨rfl, rfl⟩
  · by_cases h2 : y < x
    · have hr : cmpI x y = 1 := by unfold cmpI; rw [if_neg h1, if_pos h2]
      rw [hr]
      go_enter Try.func41, Try.ntmps41
      go_wp2_with (go_at_call 69; refine HX.out.mono ?_; rintro e w' ⟨rfl, rfl⟩)
      go_wp2_with (go_at_call 69; refine HY.out.mono ?_; rintro e w' ⟨rfl, rfl⟩)
      go_wp2
      go_ret
      exact ⟨rfl, rfl⟩
    · have hr : cmpI x y = 0 := by unfold cmpI; rw [if_neg h1, if_neg h2]
      rw [hr]
      go_enter Try.func41, Try.ntmps41
      go_wp2_with (go_at_call 69; refine HX.out.mono ?_; rintro e w' ⟨rfl, rfl⟩)
      go_wp2_with (go_at_call 69; refine HY.out.mono ?_; rintro e w' ⟨rfl, rfl⟩)
      go_wp2
      go_ret
      exact ⟨rfl, rfl⟩
set_option maxRecDepth 100000 in
theorem byoff_any (x y : VRow) (w : World) : Calls Try.prog 40 #[rowV x, rowV y] w fun e w' => e = .returned (.int .i64 (cmpO x y)) ∧ ∃ q os', w' = grow (w.drewN q) os' := by
  have HC := fun W => ccmp_any x.offset y.offset W
  obtain ⟨r, hr⟩ : ∃ r, cmpO x y = r := ⟨_, rfl⟩
  have hr' : cmpI x.offset y.offset = r := hr
  rw [hr'] at HC
  rw [hr]
  clear hr hr'
  have HC := Lib.hid HC
  obtain ⟨xk, xv, xo, xt⟩ := x
  obtain ⟨yk, yv, yo, yt⟩ := y
  dsimp only at HC ⊢
  refine calls_wd ?_
  go_enter Try.func40, Try.ntmps40
  go_wp2_with ((go_at_call 41; ((with_reducible refine (HC.out _).mono ?_); rintro e w1 ⟨rfl, rfl⟩)))
  go_ret
  exact ⟨rfl, 0, _, world_ext (Array.append_assoc ..) rfl rfl rfl rfl⟩
set_option maxRecDepth 100000 in
theorem byoff_by (blk off size : Nat) (w : World) : CmpBy Try.prog 40 #[] vrCells 4 cmpO blk off size w :=
  ⟨enters_of Try.func40 (by kernel_rfl) rfl, fun m os dk hs x y => byoff_any x y _, cmpO_by⟩
theorem vrCells_one' : ∀ x, ∀ v ∈ vrCells x, v.oneCell' = true := fun x u hu => by
  simp only [vrCells, List.mem_cons, List.not_mem_nil, or_false] at hu
  rcases hu with rfl | rfl | rfl | rfl <;> rfl
set_option maxRecDepth 100000 in
theorem ins_enter : ∀ args w, (callFunc 89 args).run Try.prog w = .ok (.enter 89 args) w := enters_of Try.func89 (by kernel_rfl) rfl
/-- The rows, sorted by their offsets: what has one offset stands as it stood. -/
structure SsfRet (w w' : World) (e : Ending) (B g cap : Nat) (l : List VRow) : Prop where
  out : e = .returned (.tuple #[]) ∧ ∃ s : List VRow, s.length = l.length ∧ SortedF VRow.offset s ∧ SameF VRow.offset s l ∧ w'.ownsRow B 34 4 (.slice (some ⟨g, 0, none⟩) l.length cap) l.length (s.flatMap vrCells) ∧ w.grownBy w' (some g)
theorem stab_some (B g cap : Nat) (l : List VRow) (w : World) (h : w.ownsRow B 34 4 (.slice (some ⟨g, 0, none⟩) l.length cap) l.length (l.flatMap vrCells)) (hl : l.length ≤ 1000000) :
    Calls Try.prog 68 #[.slice (some ⟨g, 0, none⟩) l.length cap, .int .i64 l.length, .func (.func 40) #[] #[]] w fun e w' => SsfRet w w' e B g cap l := by
  have hH := holdsK_of_owns vrCells_len (by decide) h
  have hsz : l.toArray.size = l.length := List.size_toArray
  have R : RowK vrCells 4 w g 0 l.toArray := ⟨vrCells_len, vrCells_one', hH, owns_lt h⟩
  have := stable_any layV Try.func68 ins_enter vrCells 40 #[] g 0 cap l.toArray w w (staUse layV Try.insL rfl rfl vrCells cmpO 40 #[] g 0 cap l.toArray w (byoff_by g 0 _ w) R (by omega)) (SWK.start hH) (by omega)
  rw [hsz] at this
  refine this.mono ?_
  rintro e w' ⟨rfl, d', h1, h2, h3, n, os, rfl⟩
  obtain ⟨k1, k2⟩ := owns_of_sort (n := n) vrCells_len (by decide) h d' (by omega) os
  exact ⟨rfl, d'.toList, by rw [Array.length_toList]; omega, h2, h3, k1, k2⟩
set_option maxRecDepth 100000 in
theorem ssf_some (B g cap : Nat) (l : List VRow) (w : World) (h : w.ownsRow B 34 4 (.slice (some ⟨g, 0, none⟩) l.length cap) l.length (l.flatMap vrCells)) (hl : l.length ≤ 1000000) :
    Calls Try.prog 39 #[.slice (some ⟨g, 0, none⟩) l.length cap, .func (.func 40) #[] #[]] w fun e w' => SsfRet w w' e B g cap l := by
  have HC := Lib.hid (stab_some B g cap l w h hl)
  clear h
  go_enter Try.func39, Try.ntmps39
  go_wp2_with (go_at_call 68; refine HC.out.mono ?_; rintro e w' ⟨rfl, hs⟩)
  go_wp2
  go_end0
  exact ⟨rfl, hs⟩
set_option maxRecDepth 100000 in
theorem ins_none (a : Option Addr) (n cap : Nat) (F : Value) (w : World) (hF : ∃ f r c, F = .func f r c) : Calls Try.prog 89 #[.slice a n cap, .int .i64 0, .int .i64 0, F] w fun e w' => e = .returned (.tuple #[]) ∧ w' = w := by
  obtain ⟨f, r, c, rfl⟩ := hF
  go_enter Try.func89, Try.ntmps89
  go_wp2
  go_loopg [8] 1 (fun gg s8 wr => s8 = .int .i64 1 ∧ wr = w)
  case atStart => exact ⟨rfl, rfl⟩
  case round =>
    obtain ⟨rfl, rfl⟩ := hrel
    go_wp2
    go_end0
    exact ⟨rfl, rfl⟩
set_option maxRecDepth 100000 in
theorem stab_none (a : Option Addr) (cap : Nat) (w : World) : Calls Try.prog 68 #[.slice a 0 cap, .int .i64 0, .func (.func 40) #[] #[]] w fun e w' => e = .returned (.tuple #[]) ∧ w' = w := by
  have HC := Lib.hid (ins_none a 0 cap (.func (.func 40) #[] #[]) w ⟨_, _, _, rfl⟩)
  go_enter Try.func68, Try.ntmps68
  go_wp2
  go_loopg [7, 8] 1 (fun gg s7 s8 wr => s7 = .int .i64 0 ∧ s8 = .int .i64 20 ∧ wr = w)
  case atStart => exact ⟨rfl, rfl, rfl⟩
  case round =>
    obtain ⟨rfl, rfl, rfl⟩ := hrel
    go_wp2_with (go_at_call 89; refine HC.out.mono ?_; rintro e w' ⟨rfl, rfl⟩)
    go_wp2
    go_loopg [6] 1 (fun gg s6 wq => s6 = .int .i64 20 ∧ wq = w')
    case atStart => exact ⟨rfl, rfl⟩
    case round =>
      obtain ⟨rfl, rfl⟩ := hrel
      go_wp2
      go_end0
      exact ⟨rfl, rfl⟩
set_option maxRecDepth 100000 in
theorem ssf_none (a : Option Addr) (cap : Nat) (w : World) : Calls Try.prog 39 #[.slice a 0 cap, .func (.func 40) #[] #[]] w fun e w' => e = .returned (.tuple #[]) ∧ w' = w := by
  have HC := Lib.hid (stab_none a cap w)
  go_enter Try.func39, Try.ntmps39
  go_wp2_with (go_at_call 68; refine HC.out.mono ?_; rintro e w' ⟨rfl, rfl⟩)
  go_wp2
  go_end0
  exact ⟨rfl, rfl⟩
end Go.Proofs.Ytlanghikmccmbaa
