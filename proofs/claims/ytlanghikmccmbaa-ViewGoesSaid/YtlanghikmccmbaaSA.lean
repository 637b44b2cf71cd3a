/- Stable sorting, plainly: lists sorted by a number, in which what has one number stands as it stood. -/
import Derived.Test.YtlanghikmccmbaaMA
import Derived.Test.YtlanghikmccmbaaVA
import Derived.Shelf.SlSortCmp.KitK
import Derived.Sort.WalkB2
import Derived.Sort.WalkB12
import Derived.Deep.LoopGhost
namespace Go.Proofs.Ytlanghikmccmbaa
set_option linter.unusedVariables false
set_option linter.unusedSimpArgs false
section
variable {α : Type} (f : α → Int)
abbrev SortedF (l : List α) : Prop := l.Pairwise fun x y => f x ≤ f y
def SameF (l l' : List α) : Prop := ∀ k : Int, l.filter (fun x => decide (f x = k)) = l'.filter (fun x => decide (f x = k))
variable {f}
theorem SameF.refl (l : List α) : SameF f l l := fun _ => rfl
theorem SameF.symm {l l' : List α} (h : SameF f l l') : SameF f l' l := fun k => (h k).symm
theorem SameF.trans {l l' l'' : List α} (h : SameF f l l') (g : SameF f l' l'') : SameF f l l'' := fun k => (h k).trans (g k)
theorem SameF.append {a b c d : List α} (h : SameF f a b) (g : SameF f c d) : SameF f (a ++ c) (b ++ d) := fun k => by rw [List.filter_append, List.filter_append, h k, g k]
theorem SameF.mem {l l' : List α} (h : SameF f l l') (x : α) : x ∈ l ↔ x ∈ l' := by
  have key : ∀ m : List α, x ∈ m ↔ x ∈ m.filter (fun y => decide (f y = f x)) := fun m => by simp [List.mem_filter]
  rw [key l, h (f x), ← key l']
theorem SameF.swap {a b : List α} (h : ∀ x ∈ a, ∀ y ∈ b, f x ≠ f y) : SameF f (a ++ b) (b ++ a) := fun k => by
  rw [List.filter_append, List.filter_append]
  by_cases ha : a.filter (fun x => decide (f x = k)) = []
  · rw [ha]; simp
  · by_cases hb : b.filter (fun x => decide (f x = k)) = []
    · rw [hb]; simp
    · obtain ⟨x, hx⟩ := List.exists_mem_of_ne_nil _ ha
      obtain ⟨y, hy⟩ := List.exists_mem_of_ne_nil _ hb
      simp only [List.mem_filter, decide_eq_true_eq] at hx hy
      exact absurd (hx.2.trans hy.2.symm) (h x hx.1 y hy.1)
theorem sorted_unique_f : ∀ {l l' : List α}, SortedF f l → SortedF f l' → SameF f l l' → l = l'
  | [], [], _, _, _ => rfl
  | [], y :: l', _, _, h => by have := (h.mem y).2 (by simp); cases this
  | x :: l, [], _, _, h => by have := (h.mem x).1 (by simp); cases this
  | x :: l, y :: l', h1, h2, h => by
    have g1 := List.pairwise_cons.1 h1
    have g2 := List.pairwise_cons.1 h2
    have e1 : f x ≤ f y := by
      rcases List.mem_cons.1 ((h.mem y).2 (by simp)) with e | e
      · rw [e]; exact Int.le_refl _
      · exact g1.1 y e
    have e2 : f y ≤ f x := by
      rcases List.mem_cons.1 ((h.mem x).1 (by simp)) with e | e
      · rw [e]; exact Int.le_refl _
      · exact g2.1 x e
    have e : f y = f x := by omega
    have hk := h (f x)
    simp only [List.filter_cons, e, decide_true, if_true] at hk
    obtain ⟨rfl, hk2⟩ := List.cons.inj hk
    rw [sorted_unique_f g1.2 g2.2 fun k => ?_]
    by_cases hkx : f x = k
    · rw [← hkx]; exact hk2
    · have := h k
      simpa [List.filter_cons, hkx] using this
theorem merge_split {U1 U2 V1 V2 M1 M2 : List α} (h12 : ∀ u ∈ U1, ∀ v ∈ V2, f u ≤ f v) (h21 : ∀ u ∈ U2, ∀ v ∈ V1, f v < f u) (hU : SortedF f (U1 ++ U2)) (hV : SortedF f (V1 ++ V2))
    (s1 : SortedF f M1) (e1 : SameF f M1 (U1 ++ V1)) (s2 : SortedF f M2) (e2 : SameF f M2 (U2 ++ V2)) : SortedF f (M1 ++ M2) ∧ SameF f (M1 ++ M2) ((U1 ++ U2) ++ (V1 ++ V2)) := by
  refine ⟨List.pairwise_append.2 ⟨s1, s2, fun x hx y hy => ?_⟩, (e1.append e2).trans ?_⟩
  · have hU3 := (List.pairwise_append.1 hU).2.2
    have hV3 := (List.pairwise_append.1 hV).2.2
    rcases List.mem_append.1 ((e1.mem x).1 hx) with h | h <;> rcases List.mem_append.1 ((e2.mem y).1 hy) with g | g
    · exact hU3 x h y g
    · exact h12 x h y g
    · have := h21 y g x h; omega
    · exact hV3 x h y g
  · have h0 : SameF f (V1 ++ U2) (U2 ++ V1) := SameF.swap fun x hx y hy e => by have := h21 y hy x hx; omega
    have h3 := (SameF.refl (f := f) U1).append (h0.append (SameF.refl (f := f) V2))
    simpa [List.append_assoc] using h3
theorem take_le {U : List α} {s : Nat} {x : α} (hU : SortedF f U) (hx : U[s]? = some x) : ∀ u ∈ U.take (s + 1), f u ≤ f x := fun u hu => by
  obtain ⟨i, hi, rfl⟩ := List.getElem_of_mem hu
  rw [List.length_take] at hi
  rw [List.getElem_take]
  obtain ⟨hs, rfl⟩ := List.getElem?_eq_some_iff.1 hx
  by_cases e : i = s
  · subst e; exact Int.le_refl _
  · exact List.pairwise_iff_getElem.1 hU i s (by omega) hs (by omega)
theorem drop_ge {V : List α} {s : Nat} {y : α} (hV : SortedF f V) (hy : V[s]? = some y) : ∀ v ∈ V.drop s, f y ≤ f v := fun v hv => by
  obtain ⟨i, hi, rfl⟩ := List.getElem_of_mem hv
  rw [List.length_drop] at hi
  rw [List.getElem_drop]
  obtain ⟨hs, rfl⟩ := List.getElem?_eq_some_iff.1 hy
  by_cases e : i = 0
  · subst e; exact Int.le_refl _
  · exact List.pairwise_iff_getElem.1 hV s (s + i) hs (by omega) (by omega)
theorem split12 {U V : List α} {s e : Nat} (hU : SortedF f U) (hV : SortedF f V) (h : s = 0 ∨ V.length ≤ e ∨ ∃ x y, U[s - 1]? = some x ∧ V[e]? = some y ∧ f x ≤ f y) : ∀ u ∈ U.take s, ∀ v ∈ V.drop e, f u ≤ f v := fun u hu v hv => by
  rcases h with rfl | h | ⟨x, y, hx, hy, hxy⟩
  · simp at hu
  · rw [List.drop_eq_nil_of_le h] at hv; cases hv
  · by_cases h0 : s = 0
    · subst h0; simp at hu
    · have h1 := take_le hU hx u (by rwa [Nat.sub_add_cancel (by omega)])
      have h2 := drop_ge hV hy v hv
      omega
theorem split21 {U V : List α} {s e : Nat} (hU : SortedF f U) (hV : SortedF f V) (h : U.length ≤ s ∨ e = 0 ∨ ∃ x y, U[s]? = some x ∧ V[e - 1]? = some y ∧ f y < f x) : ∀ u ∈ U.drop s, ∀ v ∈ V.take e, f v < f u := fun u hu v hv => by
  rcases h with h | rfl | ⟨x, y, hx, hy, hxy⟩
  · rw [List.drop_eq_nil_of_le h] at hu; cases hu
  · simp at hv
  · by_cases h0 : e = 0
    · subst h0; simp at hv
    · have h1 := take_le hV hy v (by rwa [Nat.sub_add_cancel (by omega)])
      have h2 := drop_ge hU hx u hu
      omega
/-- Two sorted lists, merged: the number of elements of the first half are known. -/
structure Merged (f : α → Int) (U V M : List α) : Prop where
  sorted : SortedF f M
  same : SameF f M (U ++ V)
  len : M.length = U.length + V.length
theorem Merged.split {U V M1 M2 : List α} (s e : Nat) (hU : SortedF f U) (hV : SortedF f V) (h12 : ∀ u ∈ U.take s, ∀ v ∈ V.drop e, f u ≤ f v) (h21 : ∀ u ∈ U.drop s, ∀ v ∈ V.take e, f v < f u)
    (h1 : Merged f (U.take s) (V.take e) M1) (h2 : Merged f (U.drop s) (V.drop e) M2) : Merged f U V (M1 ++ M2) := by
  have h := merge_split h12 h21 (by rw [List.take_append_drop]; exact hU) (by rw [List.take_append_drop]; exact hV) h1.sorted h1.same h2.sorted h2.same
  rw [List.take_append_drop, List.take_append_drop] at h
  refine ⟨h.1, h.2, ?_⟩
  rw [List.length_append, h1.len, h2.len]
  simp only [List.length_take, List.length_drop]; omega
theorem Merged.left {U : List α} (hU : SortedF f U) : Merged f U [] U := ⟨hU, by rw [List.append_nil]; exact SameF.refl _, by simp⟩
theorem Merged.right {V : List α} (hV : SortedF f V) : Merged f [] V V := ⟨hV, SameF.refl _, by simp⟩
/-- One element, laid into a sorted list from the left: behind what is less. -/
theorem Merged.one {x : α} {V : List α} (e : Nat) (hV : SortedF f V) (h1 : e = 0 ∨ ∃ y, V[e - 1]? = some y ∧ f y < f x) (h2 : V.length ≤ e ∨ ∃ y, V[e]? = some y ∧ f x ≤ f y) : Merged f [x] V (V.take e ++ (x :: V.drop e)) := by
  have := Merged.split (U := [x]) (V := V) (M1 := V.take e) (M2 := x :: V.drop e) 0 e (List.pairwise_singleton _ _) hV (by simp) (split21 (List.pairwise_singleton _ _) hV (by
    rcases h1 with h1 | ⟨y, hy, hlt⟩
    · exact .inr (.inl h1)
    · exact .inr (.inr ⟨x, y, rfl, hy, hlt⟩))) (Merged.right (hV.sublist (List.take_sublist _ _))) ⟨List.pairwise_cons.2 ⟨fun v hv => ?_, hV.sublist (List.drop_sublist _ _)⟩, SameF.refl _, by simp [Nat.add_comm]⟩
  · exact this
  · rcases h2 with h2 | ⟨y, hy, hle⟩
    · rw [List.drop_eq_nil_of_le h2] at hv; cases hv
    · exact Int.le_trans hle (drop_ge hV hy v hv)
/-- .. from the right: ahead of what is greater. -/
theorem Merged.one' {y : α} {U : List α} (s : Nat) (hU : SortedF f U) (h1 : s = 0 ∨ ∃ x, U[s - 1]? = some x ∧ f x ≤ f y) (h2 : U.length ≤ s ∨ ∃ x, U[s]? = some x ∧ f y < f x) : Merged f U [y] (U.take s ++ (y :: U.drop s)) := by
  have := Merged.split (U := U) (V := [y]) (M1 := U.take s ++ [y]) (M2 := U.drop s) s 1 hU (List.pairwise_singleton _ _) (by simp) (split21 hU (List.pairwise_singleton _ _) (by
    rcases h2 with h2 | ⟨x, hx, hlt⟩
    · exact .inl h2
    · exact .inr (.inr ⟨x, y, hx, rfl, hlt⟩))) ⟨List.pairwise_append.2 ⟨hU.sublist (List.take_sublist _ _), List.pairwise_singleton _ _, fun u hu v hv => ?_⟩, SameF.refl _, by simp⟩ (Merged.left (hU.sublist (List.drop_sublist _ _)))
  · simpa using this
  · have : v = y := by simpa using hv
    subst this
    rcases h1 with h1 | ⟨x, hx, hle⟩
    · subst h1; simp at hu
    · by_cases h0 : s = 0
      · subst h0; simp at hu
      · exact Int.le_trans (take_le hU hx u (by rwa [Nat.sub_add_cancel (by omega)])) hle
/-! blocks -/
def blk (bs q : Nat) (l : List α) : List α := (l.drop (q * bs)).take bs
/-- l with the stretch from a, as long as U and V, merged. -/
theorem seg4 (l : List α) (a m b : Nat) (h1 : a ≤ m) (h2 : m ≤ b) : l = l.take a ++ ((l.drop a).take (m - a) ++ ((l.drop m).take (b - m) ++ l.drop b)) := by
  have e1 : l.drop m = (l.drop m).take (b - m) ++ l.drop b := by
    conv => lhs; rw [← List.take_append_drop (b - m) (l.drop m)]
    rw [List.drop_drop, Nat.add_sub_cancel' h2]
  have e2 : l.drop a = (l.drop a).take (m - a) ++ l.drop m := by
    conv => lhs; rw [← List.take_append_drop (m - a) (l.drop a)]
    rw [List.drop_drop, Nat.add_sub_cancel' h1]
  rw [← e1, ← e2, List.take_append_drop]
end
end Go.Proofs.Ytlanghikmccmbaa
/- slices.swapRangeCmpFunc, rotateCmpFunc at rows of a view. -/
namespace Go.Proofs.Ytlanghikmccmbaa
open Go.RowKit Go.Lib Go.Sort
set_option linter.unusedVariables false
set_option linter.unusedSimpArgs false
/-- What the walks of the stable sort's functions want of a program (a row's size behind a variable: a whole row is loaded and stored in one step). -/
structure LayV (P : Program) (k : Nat) : Prop where
  mixed : P.follows .mixedOrders = true
  fsw : P.funcs[113]? = some Try.f113
  fro : P.funcs[106]? = some Try.f106
  fsy : P.funcs[90]? = some Try.f90
  t0 : P.underlying 0 = some (.tuple #[])
  a0 : ∀ w, (isAgg 0).run P w = .ok false w
  z0 : ∀ w, (Go.sizeOf 0).run P w = .ok 1 w
  v0 : ∀ w, (zeroValue 0).run P w = .ok (.tuple #[]) w
  t3 : P.underlying 3 = some (.int .i64)
  a3 : ∀ w, (isAgg 3).run P w = .ok false w
  z3 : ∀ w, (Go.sizeOf 3).run P w = .ok 1 w
  v3 : ∀ w, (zeroValue 3).run P w = .ok (.int .i64 0) w
  t4 : P.underlying 4 = some (.bool)
  a4 : ∀ w, (isAgg 4).run P w = .ok false w
  z4 : ∀ w, (Go.sizeOf 4).run P w = .ok 1 w
  v4 : ∀ w, (zeroValue 4).run P w = .ok (.bool false) w
  tU : P.underlying 133 = some (.int .u64)
  aU : ∀ w, (isAgg 133).run P w = .ok false w
  zU : ∀ w, (Go.sizeOf 133).run P w = .ok 1 w
  vU : ∀ w, (zeroValue 133).run P w = .ok (.int .u64 0) w
  tS : P.underlying 30 = some (.slice 34)
  aS : ∀ w, (isAgg 30).run P w = .ok false w
  zS : ∀ w, (Go.sizeOf 30).run P w = .ok 1 w
  vS : ∀ w, (zeroValue 30).run P w = .ok (.slice none 0 0) w
  tF : P.underlying 84 = some (.func #[34, 34] #[3] false)
  aF : ∀ w, (isAgg 84).run P w = .ok false w
  zF : ∀ w, (Go.sizeOf 84).run P w = .ok 1 w
  vF : ∀ w, (zeroValue 84).run P w = .ok (.nilFunc) w
  aE : ∀ w, (isAgg 34).run P w = .ok true w
  zE : ∀ w, (Go.sizeOf 34).run P w = .ok k w
theorem layV : LayV Try.prog 4 := {
  mixed := by kernel_rfl
  fsw := Try.func113
  fro := Try.func106
  fsy := Try.func90
  t0 := Try.underlying0
  a0 := Try.isAgg0
  z0 := Try.sizeOf0
  v0 := Try.zeroValue0
  t3 := Try.underlying3
  a3 := Try.isAgg3
  z3 := Try.sizeOf3
  v3 := Try.zeroValue3
  t4 := Try.underlying4
  a4 := Try.isAgg4
  z4 := Try.sizeOf4
  v4 := Try.zeroValue4
  tU := Try.underlying133
  aU := Try.isAgg133
  zU := Try.sizeOf133
  vU := Try.zeroValue133
  tS := Try.underlying30
  aS := Try.isAgg30
  zS := Try.sizeOf30
  vS := Try.zeroValue30
  tF := Try.underlying84
  aF := Try.isAgg84
  zF := Try.sizeOf84
  vF := Try.zeroValue84
  aE := Try.isAgg34
  zE := Try.sizeOf34 }
theorem swp_list {α : Type} [Inhabited α] (d : Array α) (A B C : List α) (x y : α) (h : d.toList = A ++ (x :: (B ++ (y :: C)))) {i j : Nat} (hi : i = A.length) (hj : j = A.length + 1 + B.length) : (swp d i j).toList = A ++ (y :: (B ++ (x :: C))) := by
  subst hi hj
  have hs : d.size = A.length + (1 + (B.length + (1 + C.length))) := by rw [← Array.length_toList, h]; simp [Nat.add_comm, Nat.add_left_comm]
  have key : ∀ (i : Nat) (v : α), d.toList[i]? = some v → d[i]! = v := fun i v hv => by
    rw [Array.getElem?_toList] at hv
    obtain ⟨hi, rfl⟩ := Array.getElem?_eq_some_iff.1 hv
    exact getElem!_pos d i hi
  have e1 : d[A.length]! = x := key _ _ (by rw [h, List.getElem?_append_right (Nat.le_refl _), Nat.sub_self]; rfl)
  have e2 : d[A.length + 1 + B.length]! = y := key _ _ (by rw [h, List.getElem?_append_right (by omega), show A.length + 1 + B.length - A.length = B.length + 1 by omega, List.getElem?_cons_succ, List.getElem?_append_right (Nat.le_refl _), Nat.sub_self]; rfl)
  unfold swp
  rw [e1, e2, Array.toList_setIfInBounds, Array.toList_setIfInBounds, h]
  rw [List.set_append_right _ _ (Nat.le_refl _), Nat.sub_self, List.set_cons_zero, List.set_append_right _ _ (by omega)]
  rw [show A.length + 1 + B.length - A.length = B.length + 1 by omega, List.set_cons_succ, List.set_append_right _ _ (Nat.le_refl _), Nat.sub_self, List.set_cons_zero]
set_option maxHeartbeats 4000000 in
set_option maxRecDepth 1000000 in
theorem swapRange_any {P : Program} {k : Nat} (L : LayV P k) (enc : VRow → List Value) (g : Nat) (cb : Array Value) (blk off cap a b n : Nat) (d0 d : Array VRow) (w0 w : World) (P1 X Q Y S : List VRow)
    (R : RowK enc k w0 blk off d0) (hs : d0.size = d.size) (SS : SWK enc k w0 blk off d w) (hd : d.toList = P1 ++ (X ++ (Q ++ (Y ++ S)))) (ha : a = P1.length) (hb : b = P1.length + X.length + Q.length) (hn : n = X.length) (hy : Y.length = X.length) (hsz : d.size < 4611686018427387904) :
    Calls P 113 #[.slice (some ⟨blk, off, none⟩) d.size cap, .int .i64 a, .int .i64 b, .int .i64 n, .func (.func g) #[] cb] w fun e w' =>
      e = .returned (.tuple #[]) ∧ ∃ d' : Array VRow, d'.size = d.size ∧ d'.toList = P1 ++ (Y ++ (Q ++ (X ++ S))) ∧ SWK enc k w0 blk off d' w' := by
  have hlen : d.size = P1.length + (X.length + (Q.length + (Y.length + S.length))) := by rw [← Array.length_toList, hd]; simp
  have S0 : Aside (SWK enc k w0 blk off d w) := SS
  have HD : Aside (d.toList = P1 ++ (X ++ (Q ++ (Y ++ S)))) := hd
  have HX : Aside (X.length = n ∧ Y.length = n ∧ P1.length = a ∧ b = a + n + Q.length) := ⟨hn.symm, by omega, ha.symm, by omega⟩
  have hbn : b + n ≤ d.size := by omega
  have hab : a + n ≤ b := by omega
  clear SS hd ha hb hn hy hlen
  have mixed := L.mixed
  have t0 := L.t0
  have a0 := L.a0
  have z0 := L.z0
  have v0 := L.v0
  have t3 := L.t3
  have a3 := L.a3
  have z3 := L.z3
  have v3 := L.v3
  have t4 := L.t4
  have a4 := L.a4
  have z4 := L.z4
  have v4 := L.v4
  have tU := L.tU
  have aU := L.aU
  have zU := L.zU
  have vU := L.vU
  have tS := L.tS
  have aS := L.aS
  have zS := L.zS
  have vS := L.vS
  have tF := L.tF
  have aF := L.aF
  have zF := L.zF
  have vF := L.vF
  have aE := L.aE
  have zE := L.zE
  go_enter L.fsw, Try.ntmps113
  go_wp2
  go_loopg [10] n (fun gg s10 wr => ∃ (t : Nat) (dk : Array VRow), s10 = .int .i64 t ∧ t ≤ n ∧ n - t ≤ gg ∧ dk.size = d.size ∧ Aside (SWK enc k w0 blk off dk wr) ∧ Aside (dk.toList = P1 ++ ((Y.take t ++ X.drop t) ++ (Q ++ ((X.take t ++ Y.drop t) ++ S)))))
  case atStart =>
    have h0 : d.toList = P1 ++ ((Y.take 0 ++ X.drop 0) ++ (Q ++ ((X.take 0 ++ Y.drop 0) ++ S))) := by simpa using HD.out
    exact ⟨0, d, rfl, Nat.zero_le _, by omega, rfl, S0, h0⟩
  case round =>
    clear S0 HD
    obtain ⟨t, dk, rfl, htn, hg, hds, S1, HL⟩ := hrel
    by_cases hlt : t < n
    · have hltz : (t : Int) < (n : Int) := by omega
      go_wp2_with fail
      have ea1 : ((a : Int) + (t : Int)).toNat = a + t := by omega
      have pa1 : (0 : Int) ≤ (a : Int) + (t : Int) := by omega
      have ba1 : (a : Int) + (t : Int) < (d.size : Int) := by omega
      have ra1 : IntKind.i64.wrap ((a : Int) + (t : Int)) = (a : Int) + (t : Int) := by rw [IntKind.wrap_i64]; omega
      have ec1 : ((b : Int) + (t : Int)).toNat = b + t := by omega
      have pc1 : (0 : Int) ≤ (b : Int) + (t : Int) := by omega
      have bc1 : (b : Int) + (t : Int) < (d.size : Int) := by omega
      have rc1 : IntKind.i64.wrap ((b : Int) + (t : Int)) = (b : Int) + (t : Int) := by rw [IntKind.wrap_i64]; omega
      have S2 : Aside (SWK enc k w0 blk off (swp dk (a + t) (b + t)) ((wr.drew.setCells blk (off + (a + t) * k) (enc dk[b + t]!)).setCells blk (off + (b + t) * k) (enc dk[a + t]!))) := S1.out.swapped R (a + t) (b + t) (by omega) (by omega)
      have l1 := S1.out.ld1 R (by omega) P (a + t) (by omega)
      have l2 := S1.out.ld1 R (by omega) P (b + t) (by omega)
      have s1 := S1.out.st1 R (by omega) P (a + t) (by omega) dk[b + t]!
      have s2 := S1.out.st2 R (by omega) P (a + t) (b + t) (by omega) (by omega) dk[b + t]! dk[a + t]!
      have n1 : (enc dk[a + t]!).length = k := R.hk _
      have n2 : (enc dk[b + t]!).length = k := R.hk _
      generalize enc dk[a + t]! = cI at S2 l1 s2 n1
      generalize enc dk[b + t]! = cJ at S2 l2 s1 s2 n2
      clear S1
      go_wp2_with fail
      go_big_region_o
      clear l1 l2 s1 s2
      generalize (wr.drew.setCells blk (off + (a + t) * k) cJ).setCells blk (off + (b + t) * k) cI = w2 at S2 ⊢
      go_wp2
      go_roundg (n - (t + 1))
      case measure => omega
      case rel =>
        obtain ⟨hx1, hx2, hx3, hx4⟩ := HX.out
        refine ⟨t + 1, swp dk (a + t) (b + t), by go_num, by omega, by omega, by rw [size_swp]; exact hds, S2, ?_⟩
        show _ = _
        obtain ⟨x, hx⟩ : ∃ x, X[t]? = some x := ⟨_, List.getElem?_eq_getElem (by omega)⟩
        obtain ⟨y, hy⟩ : ∃ y, Y[t]? = some y := ⟨_, List.getElem?_eq_getElem (by omega)⟩
        have ex : X.drop t = x :: X.drop (t + 1) := by rw [List.drop_eq_getElem_cons (by omega)]; congr 1; exact (List.getElem?_eq_some_iff.1 hx).2
        have ey : Y.drop t = y :: Y.drop (t + 1) := by rw [List.drop_eq_getElem_cons (by omega)]; congr 1; exact (List.getElem?_eq_some_iff.1 hy).2
        have h := swp_list dk (P1 ++ Y.take t) (X.drop (t + 1) ++ (Q ++ X.take t)) (Y.drop (t + 1) ++ S) x y (by rw [HL.out, ex, ey]; simp [List.append_assoc]) (i := a + t) (j := b + t) (by simp [List.length_take]; omega) (by simp [List.length_take]; omega)
        rw [h, List.take_add_one, hy, List.take_add_one, hx]
        simp [List.append_assoc]
    · have hltz : ¬ (t : Int) < (n : Int) := by omega
      obtain rfl : t = n := by omega
      go_wp2
      go_end0
      refine ⟨rfl, dk, hds, ?_, S1.out⟩
      have := HL.out
      obtain ⟨hx1, hx2, -, -⟩ := HX.out
      rw [List.take_of_length_le (by omega), List.drop_of_length_le (by omega), List.take_of_length_le (by omega), List.drop_of_length_le (by omega)] at this
      simpa using this
set_option maxHeartbeats 4000000 in
set_option maxRecDepth 1000000 in
theorem rotate_any {P : Program} {k : Nat} (L : LayV P k) (enc : VRow → List Value) (g : Nat) (cb : Array Value) (blk off cap a m b : Nat) (d0 d : Array VRow) (w0 w : World) (P1 U V S : List VRow)
    (R : RowK enc k w0 blk off d0) (hs : d0.size = d.size) (SS : SWK enc k w0 blk off d w) (hd : d.toList = P1 ++ (U ++ (V ++ S))) (ha : a = P1.length) (hm : m = a + U.length) (hb : b = m + V.length) (hU : 0 < U.length) (hV : 0 < V.length) (hsz : d.size < 4611686018427387904) :
    Calls P 106 #[.slice (some ⟨blk, off, none⟩) d.size cap, .int .i64 a, .int .i64 m, .int .i64 b, .func (.func g) #[] cb] w fun e w' =>
      e = .returned (.tuple #[]) ∧ ∃ d' : Array VRow, d'.size = d.size ∧ d'.toList = P1 ++ (V ++ (U ++ S)) ∧ SWK enc k w0 blk off d' w' := by
  have hlen : d.size = P1.length + (U.length + (V.length + S.length)) := by rw [← Array.length_toList, hd]; simp
  have esw : ∀ args w, (callFunc 113 args).run P w = .ok (.enter 113 args) w := enters_of L.fsw (by kernel_rfl) rfl
  have S0 : Aside (SWK enc k w0 blk off d w) := SS
  have HD : Aside (d.toList = P1 ++ (U ++ (V ++ S))) := hd
  have HSW : Aside (∀ (a b n : Nat) (dk : Array VRow) (W : World) (P1 X Q Y S : List VRow), d0.size = dk.size → SWK enc k w0 blk off dk W → dk.toList = P1 ++ (X ++ (Q ++ (Y ++ S))) → a = P1.length → b = P1.length + X.length + Q.length → n = X.length → Y.length = X.length → dk.size < 4611686018427387904 →
    Calls P 113 #[.slice (some ⟨blk, off, none⟩) dk.size cap, .int .i64 a, .int .i64 b, .int .i64 n, .func (.func g) #[] cb] W fun e w' => e = .returned (.tuple #[]) ∧ ∃ d' : Array VRow, d'.size = dk.size ∧ d'.toList = P1 ++ (Y ++ (Q ++ (X ++ S))) ∧ SWK enc k w0 blk off d' w') :=
    fun a b n dk W P1 X Q Y S h1 h2 h3 h4 h5 h6 h7 h8 => swapRange_any L enc g cb blk off cap a b n d0 dk w0 W P1 X Q Y S R h1 h2 h3 h4 h5 h6 h7 h8
  obtain ⟨T, hT⟩ : ∃ T, P1 ++ (V ++ (U ++ S)) = T := ⟨_, rfl⟩
  have HT : Aside (P1 ++ (V ++ (U ++ S)) = T) := hT
  obtain ⟨nu, hnu⟩ : ∃ nu, U.length = nu := ⟨_, rfl⟩
  obtain ⟨nv, hnv⟩ : ∃ nv, V.length = nv := ⟨_, rfl⟩
  have HNU : Aside (U.length = nu ∧ V.length = nv ∧ P1.length = a) := ⟨hnu, hnv, ha.symm⟩
  rw [hnu] at hm hU hlen
  rw [hnv] at hb hV hlen
  rw [← ha] at hlen
  rw [hT]
  have hmb : m + nv ≤ d.size := by omega
  have hm1 : m ≤ a + nu := by omega
  have hm2 : a + nu ≤ m := by omega
  have hb1 : b ≤ m + nv := by omega
  have hb2 : m + nv ≤ b := by omega
  clear SS hd hT hnu hnv ha hlen R hm hb
  have mixed := L.mixed
  have t0 := L.t0
  have a0 := L.a0
  have z0 := L.z0
  have v0 := L.v0
  have t3 := L.t3
  have a3 := L.a3
  have z3 := L.z3
  have v3 := L.v3
  have t4 := L.t4
  have a4 := L.a4
  have z4 := L.z4
  have v4 := L.v4
  have tU := L.tU
  have aU := L.aU
  have zU := L.zU
  have vU := L.vU
  have tS := L.tS
  have aS := L.aS
  have zS := L.zS
  have vS := L.vS
  have tF := L.tF
  have aF := L.aF
  have zF := L.zF
  have vF := L.vF
  have aE := L.aE
  have zE := L.zE
  go_enter L.fro, Try.ntmps106
  go_wp2
  go_loopg [10, 11] (nu + nv) (fun gg s10 s11 wr => ∃ (i j : Nat) (dk : Array VRow), s10 = .int .i64 i ∧ s11 = .int .i64 j ∧ 0 < i ∧ 0 < j ∧ i ≤ m ∧ m + j ≤ d.size ∧ i + j ≤ gg ∧ dk.size = d.size ∧ Aside (SWK enc k w0 blk off dk wr) ∧
    Aside (∃ P U V S : List VRow, dk.toList = P ++ (U ++ (V ++ S)) ∧ U.length = i ∧ V.length = j ∧ P.length + i = m ∧ P ++ (V ++ (U ++ S)) = T))
  case atStart =>
    obtain ⟨h1, h2, h3⟩ := HNU.out
    have h0 : ∃ P U V S : List VRow, d.toList = P ++ (U ++ (V ++ S)) ∧ U.length = nu ∧ V.length = nv ∧ P.length + nu = m ∧ P ++ (V ++ (U ++ S)) = T := ⟨P1, U, V, S, HD.out, h1, h2, by omega, HT.out⟩
    exact ⟨nu, nv, d, by first | rfl | go_num | (congr 1; omega), by first | rfl | go_num | (congr 1; omega), hU, hV, by omega, hmb, by omega, rfl, S0, h0⟩
  case round =>
    clear S0 HD HNU HT
    obtain ⟨i, j, dk, rfl, rfl, hi, hj, him, hjm, hg, hds, S1, HL⟩ := hrel
    obtain ⟨P2, U2, V2, S2, h1, h2, h3, h4, h5⟩ := HL.out
    by_cases hij : i = j
    · subst hij
      have hcall := HSW.out (m - i) m i dk wr P2 U2 [] V2 S2 (by omega) S1.out (by rw [h1]; rfl) (by omega) (by simp; omega) h2.symm (by omega) (by omega)
      rw [hds, show ((m - i : Nat) : Int) = (m : Int) - (i : Int) by omega] at hcall
      have HC := Lib.hid hcall
      have H5 : Aside (P2 ++ (V2 ++ (U2 ++ S2)) = T) := h5
      have hne : ((i : Int) != (i : Int)) = false := by simp
      clear hcall h1 h2 h3 h4 h5 HL HSW S1
      go_wp2_with (go_at_fn 113; refine HC.out.mono ?_; rintro e w' ⟨rfl, d', hz', hd', hS'⟩)
      go_end0
      refine ⟨rfl, d', hz', ?_, hS'⟩
      rw [hd', ← H5.out]; rfl
    · have hne : ((i : Int) != (j : Int)) = true := by rw [bne_iff_ne]; omega
      by_cases hlt : j < i
      · have hltz : (j : Int) < (i : Int) := by omega
        have hsplit : dk.toList = P2 ++ (U2.take j ++ (U2.drop j ++ (V2 ++ S2))) := by rw [h1, ← List.append_assoc (U2.take j), List.take_append_drop]
        have l1 : (U2.take j).length = j := by rw [List.length_take]; omega
        have l2 : (U2.drop j).length = i - j := by rw [List.length_drop]; omega
        have hcall := HSW.out (m - i) m j dk wr P2 (U2.take j) (U2.drop j) V2 S2 (by omega) S1.out hsplit (by omega) (by omega) (by omega) (by omega) (by omega)
        rw [hds, show ((m - i : Nat) : Int) = (m : Int) - (i : Int) by omega] at hcall
        have HC := Lib.hid hcall
        have H5 : Aside (P2 ++ (V2 ++ (U2 ++ S2)) = T ∧ U2.length = i ∧ V2.length = j ∧ P2.length + i = m) := ⟨h5, h2, h3, h4⟩
        clear hcall h1 h2 h3 h4 h5 HL HSW S1 hsplit l1 l2
        go_wp2_with (go_at_fn 113; refine HC.out.mono ?_; rintro e w' ⟨rfl, d', hz', hd', hS'⟩)
        have hd8 : d'.size = d.size := hz'
        have HD9 : Aside (d'.toList = P2 ++ (V2 ++ (U2.drop j ++ (U2.take j ++ S2)))) := hd'
        have HS9 : Aside (SWK enc k w0 blk off d' w') := hS'
        clear hd' hS' HC hz'
        go_wp2
        go_roundg (i - j + j)
        case measure => omega
        case rel =>
          obtain ⟨h5, h2, h3, h4⟩ := H5.out
          have h0 : ∃ P U V S : List VRow, d'.toList = P ++ (U ++ (V ++ S)) ∧ U.length = i - j ∧ V.length = j ∧ P.length + (i - j) = m ∧ P ++ (V ++ (U ++ S)) = T :=
            ⟨P2 ++ V2, U2.drop j, U2.take j, S2, by rw [HD9.out]; simp [List.append_assoc], by simp [List.length_drop, h2], by simp [List.length_take, h2]; omega, by rw [List.length_append]; omega, by rw [← h5, List.append_assoc]; congr 2; rw [← List.append_assoc, List.take_append_drop]⟩
          exact ⟨i - j, j, d', by first | rfl | go_num | (congr 1; omega), rfl, by omega, by omega, by omega, by omega, by omega, hd8, HS9, h0⟩
      · have hltz : ¬ (j : Int) < (i : Int) := by omega
        have hij2 : i < j := by omega
        have l1 : (V2.take (j - i)).length = j - i := by rw [List.length_take]; omega
        have l2 : (V2.drop (j - i)).length = i := by rw [List.length_drop]; omega
        have hsplit : dk.toList = P2 ++ (U2 ++ (V2.take (j - i) ++ (V2.drop (j - i) ++ S2))) := by rw [h1, ← List.append_assoc (V2.take (j - i)), List.take_append_drop]
        have hcall := HSW.out (m - i) (m + j - i) i dk wr P2 U2 (V2.take (j - i)) (V2.drop (j - i)) S2 (by omega) S1.out hsplit (by omega) (by omega) (by omega) (by omega) (by omega)
        rw [hds, show ((m - i : Nat) : Int) = (m : Int) - (i : Int) by omega, show ((m + j - i : Nat) : Int) = (m : Int) + (j : Int) - (i : Int) by omega] at hcall
        have HC := Lib.hid hcall
        have H5 : Aside (P2 ++ (V2 ++ (U2 ++ S2)) = T ∧ U2.length = i ∧ V2.length = j ∧ P2.length + i = m ∧ (V2.take (j - i)).length = j - i ∧ (V2.drop (j - i)).length = i) := ⟨h5, h2, h3, h4, l1, l2⟩
        clear hcall h1 h2 h3 h4 h5 HL HSW S1 hsplit l1 l2
        go_wp2_with (go_at_fn 113; refine HC.out.mono ?_; rintro e w' ⟨rfl, d', hz', hd', hS'⟩)
        have hd8 : d'.size = d.size := hz'
        have HD9 : Aside (d'.toList = P2 ++ (V2.drop (j - i) ++ (V2.take (j - i) ++ (U2 ++ S2)))) := hd'
        have HS9 : Aside (SWK enc k w0 blk off d' w') := hS'
        clear hd' hS' HC hz'
        go_wp2
        go_roundg (i + (j - i))
        case measure => omega
        case rel =>
          obtain ⟨h5, h2, h3, h4, l1, l2⟩ := H5.out
          have h0 : ∃ P U V S : List VRow, d'.toList = P ++ (U ++ (V ++ S)) ∧ U.length = i ∧ V.length = j - i ∧ P.length + i = m ∧ P ++ (V ++ (U ++ S)) = T :=
            ⟨P2, V2.drop (j - i), V2.take (j - i), U2 ++ S2, HD9.out, l2, l1, h4, by rw [← h5, ← List.append_assoc (V2.take (j - i)), List.take_append_drop]⟩
          exact ⟨i, j - i, d', rfl, by first | rfl | go_num | (congr 1; omega), by omega, by omega, by omega, by omega, by omega, hd8, HS9, h0⟩
end Go.Proofs.Ytlanghikmccmbaa
