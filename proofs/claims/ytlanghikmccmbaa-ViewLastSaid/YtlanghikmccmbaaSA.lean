/- Stable sorting, plainly: lists sorted by a number, in which what has one number stands as it stood. -/
import Derived.Test.YtlanghikmccmbaaMA
import Derived.Test.YtlanghikmccmbaaVA
import Derived.Shelf.SlSortCmp.KitK
import Derived.Sort.WalkB2
import Derived.Sort.WalkB12
import Derived.Deep.LoopGhost
namespace Go.Proofs.Ytlanghikmccmbaa
set_option linter.unusedVariables false
set_option linter.unusedSimpArgs false
section
variable {α : Type} (f : α → Int)
abbrev SortedF (l : List α) : Prop := l.Pairwise fun x y => f x ≤ f y
def SameF (l l' : List α) : Prop := ∀ k : Int, l.filter (fun x => decide (f x = k)) = l'.filter (fun x => decide (f x = k))
variable {f}
theorem SameF.refl (l : List α) : SameF f l l := fun _ => rfl
theorem SameF.symm {l l' : List α} (h : SameF f l l') : SameF f l' l := fun k => (h k).symm
theorem SameF.trans {l l' l'' : List α} (h : SameF f l l') (g : SameF f l' l'') : SameF f l l'' := fun k => (h k).trans (g k)
theorem SameF.append {a b c d : List α} (h : SameF f a b) (g : SameF f c d) : SameF f (a ++ c) (b ++ d) := fun k => by rw [List.filter_append, List.filter_append, h k, g k]
theorem SameF.mem {l l' : List α} (h : SameF f l l') (x : α) : x ∈ l ↔ x ∈ l' := by
  have key : ∀ m : List α, x ∈ m ↔ x ∈ m.filter (fun y => decide (f y = f x)) := fun m => by simp [List.mem_filter]
  rw [key l, h (f x), ← key l']
theorem SameF.swap {a b : List α} (h : ∀ x ∈ a, ∀ y ∈ b, f x ≠ f y) : SameF f (a ++ b) (b ++ a) := fun k => by
  rw [List.filter_append, List.filter_append]
  by_cases ha : a.filter (fun x => decide (f x = k)) = []
  · rw [ha]; simp
  · by_cases hb : b.filter (fun x => decide (f x = k)) = []
    · rw [hb]; simp
    · obtain ⟨x, hx⟩ := List.exists_mem_of_ne_nil _ ha
      obtain ⟨y, hy⟩ := List.exists_mem_of_ne_nil _ hb
      simp only [List.mem_filter, decide_eq_true_eq] at hx hy
      exact absurd (hx.2.trans hy.2.symm) (h x hx.1 y hy.1)
theorem merge_split {U1 U2 V1 V2 M1 M2 : List α} (h12 : ∀ u ∈ U1, ∀ v ∈ V2, f u ≤ f v) (h21 : ∀ u ∈ U2, ∀ v ∈ V1, f v < f u) (hU : SortedF f (U1 ++ U2)) (hV : SortedF f (V1 ++ V2))
    (s1 : SortedF f M1) (e1 : SameF f M1 (U1 ++ V1)) (s2 : SortedF f M2) (e2 : SameF f M2 (U2 ++ V2)) : SortedF f (M1 ++ M2) ∧ SameF f (M1 ++ M2) ((U1 ++ U2) ++ (V1 ++ V2)) := by
  refine ⟨List.pairwise_append.2 ⟨s1, s2, fun x hx y hy => ?_⟩, (e1.append e2).trans ?_⟩
  · have hU3 := (List.pairwise_append.1 hU).2.2
    have hV3 := (List.pairwise_append.1 hV).2.2
    rcases List.mem_append.1 ((e1.mem x).1 hx) with h | h <;> rcases List.mem_append.1 ((e2.mem y).1 hy) with g | g
    · exact hU3 x h y g
    · exact h12 x h y g
    · have := h21 y g x h; omega
    · exact hV3 x h y g
  · have h0 : SameF f (V1 ++ U2) (U2 ++ V1) := SameF.swap fun x hx y hy e => by have := h21 y hy x hx; omega
    have h3 := (SameF.refl (f := f) U1).append (h0.append (SameF.refl (f := f) V2))
    simpa [List.append_assoc] using h3
/-- Two sorted lists, merged: the number of elements of the first half are known. -/
structure Merged (f : α → Int) (U V M : List α) : Prop where
  sorted : SortedF f M
  same : SameF f M (U ++ V)
  len : M.length = U.length + V.length
theorem Merged.split {U V M1 M2 : List α} (s e : Nat) (hU : SortedF f U) (hV : SortedF f V) (h12 : ∀ u ∈ U.take s, ∀ v ∈ V.drop e, f u ≤ f v) (h21 : ∀ u ∈ U.drop s, ∀ v ∈ V.take e, f v < f u)
    (h1 : Merged f (U.take s) (V.take e) M1) (h2 : Merged f (U.drop s) (V.drop e) M2) : Merged f U V (M1 ++ M2) := by
  have h := merge_split h12 h21 (by rw [List.take_append_drop]; exact hU) (by rw [List.take_append_drop]; exact hV) h1.sorted h1.same h2.sorted h2.same
  rw [List.take_append_drop, List.take_append_drop] at h
  refine ⟨h.1, h.2, ?_⟩
  rw [List.length_append, h1.len, h2.len]
  simp only [List.length_take, List.length_drop]; omega
theorem Merged.left {U : List α} (hU : SortedF f U) : Merged f U [] U := ⟨hU, by rw [List.append_nil]; exact SameF.refl _, by simp⟩
theorem Merged.right {V : List α} (hV : SortedF f V) : Merged f [] V V := ⟨hV, SameF.refl _, by simp⟩
/-! blocks -/
def blk (bs q : Nat) (l : List α) : List α := (l.drop (q * bs)).take bs
end
end Go.Proofs.Ytlanghikmccmbaa
/- slices.swapRangeCmpFunc, rotateCmpFunc at rows of a view. -/
namespace Go.Proofs.Ytlanghikmccmbaa
open Go.RowKit Go.Lib Go.Sort
set_option linter.unusedVariables false
set_option linter.unusedSimpArgs false
/-- What the walks of the stable sort's functions want of a program (a row's size behind a variable: a whole row is loaded and stored in one step). -/
structure LayV (P : Program) (k : Nat) : Prop where
  mixed : P.follows .mixedOrders = true
  fsw : P.funcs[113]? = some Try.f113
  fro : P.funcs[106]? = some Try.f106
  fsy : P.funcs[90]? = some Try.f90
  t0 : P.underlying 0 = some (.tuple #[])
  a0 : ∀ w, (isAgg 0).run P w = .ok false w
  z0 : ∀ w, (Go.sizeOf 0).run P w = .ok 1 w
  v0 : ∀ w, (zeroValue 0).run P w = .ok (.tuple #[]) w
  t3 : P.underlying 3 = some (.int .i64)
  a3 : ∀ w, (isAgg 3).run P w = .ok false w
  z3 : ∀ w, (Go.sizeOf 3).run P w = .ok 1 w
  v3 : ∀ w, (zeroValue 3).run P w = .ok (.int .i64 0) w
  t4 : P.underlying 4 = some (.bool)
  a4 : ∀ w, (isAgg 4).run P w = .ok false w
  z4 : ∀ w, (Go.sizeOf 4).run P w = .ok 1 w
  v4 : ∀ w, (zeroValue 4).run P w = .ok (.bool false) w
  tU : P.underlying 133 = some (.int .u64)
  aU : ∀ w, (isAgg 133).run P w = .ok false w
  zU : ∀ w, (Go.sizeOf 133).run P w = .ok 1 w
  vU : ∀ w, (zeroValue 133).run P w = .ok (.int .u64 0) w
  tS : P.underlying 30 = some (.slice 34)
  aS : ∀ w, (isAgg 30).run P w = .ok false w
  zS : ∀ w, (Go.sizeOf 30).run P w = .ok 1 w
  vS : ∀ w, (zeroValue 30).run P w = .ok (.slice none 0 0) w
  tF : P.underlying 84 = some (.func #[34, 34] #[3] false)
  aF : ∀ w, (isAgg 84).run P w = .ok false w
  zF : ∀ w, (Go.sizeOf 84).run P w = .ok 1 w
  vF : ∀ w, (zeroValue 84).run P w = .ok (.nilFunc) w
  aE : ∀ w, (isAgg 34).run P w = .ok true w
  zE : ∀ w, (Go.sizeOf 34).run P w = .ok k w
end Go.Proofs.Ytlanghikmccmbaa
