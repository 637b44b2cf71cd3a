/- THE ENGINE, 4: stores, loads and appends, of abstract heaps. -/
import Derived.Test.YtifoekadjnlhcaaGreatDoorEA
noncomputable section
namespace Go.Proofs.YtifoekadjnlhcaaGreatDoor
open Go.RowKit
set_option linter.unusedVariables false
set_option linter.unusedSimpArgs false
namespace Ev
def setAt (H : Heap) (o : Option AObj) (n : Nat) : Option Heap := @Option.rec (Tr AObj) (fun _ => Option Heap) none (fun t => some ⟨H.next, t⟩) (Tr.set 40 H.tr n o)
def Heap.set (H : Heap) (id : Nat) (o : Option AObj) : Option Heap := atNum id (setAt H o)
theorem Heap.set_eq (H : Heap) (id : Nat) (o : Option AObj) : H.set id o = (Tr.set 40 H.tr id o).map fun t => ⟨H.next, t⟩ := by
  unfold Heap.set; rw [atNum_eq]; unfold setAt; cases Tr.set 40 H.tr id o <;> rfl
theorem Heap.set_get {H H' : Heap} {id : Nat} {o : Option AObj} (h : H.set id o = some H') (m : Nat) : H'.get m = if m = id then o else H.get m := by
  rw [Heap.set_eq] at h; rw [Heap.get_eq, Heap.get_eq]
  cases hs : Tr.set 40 H.tr id o with
  | none => rw [hs] at h; cases h
  | some t => rw [hs] at h; cases h; exact Tr.get_set _ _ _ _ _ hs m
theorem Heap.set_next {H H' : Heap} {id : Nat} {o : Option AObj} (h : H.set id o = some H') : H'.next = H.next := by
  rw [Heap.set_eq] at h
  cases hs : Tr.set 40 H.tr id o with
  | none => rw [hs] at h; cases h
  | some t => rw [hs] at h; cases h; rfl
def Heap.kill (H : Heap) : Option Nat → Option Heap
  | none => some H
  | some j => H.set j none
theorem Heap.kill_get {H H' : Heap} {m : Option Nat} (h : H.kill m = some H') (n : Nat) : H'.get n = if m = some n then none else H.get n := by
  cases m with
  | none => simp only [Heap.kill, Option.some.injEq] at h; subst h; simp
  | some j =>
    rw [Heap.set_get h]
    by_cases e : n = j
    · simp [e]
    · rw [if_neg e, if_neg (by simpa using fun h => e h.symm)]
theorem Heap.kill_next {H H' : Heap} {m : Option Nat} (h : H.kill m = some H') : H'.next = H.next := by
  cases m with
  | none => simp only [Heap.kill, Option.some.injEq] at h; subst h; rfl
  | some j => exact Heap.set_next h
def putC : List (Option Value) → Nat → List Value → List (Option Value)
  | l, _, [] => l
  | [], _, _ => []
  | _ :: l, 0, v :: vs => some v :: putC l 0 vs
  | c :: l, k + 1, vs => c :: putC l k vs
theorem putC_len : ∀ (l : List (Option Value)) (k : Nat) (vs : List Value), (putC l k vs).length = l.length
  | l, k, [] => by cases l <;> rfl
  | [], k, v :: vs => rfl
  | c :: l, 0, v :: vs => by simp [putC, putC_len l 0 vs]
  | c :: l, k + 1, v :: vs => by simp [putC, putC_len l k (v :: vs)]
theorem putC_get : ∀ (l : List (Option Value)) (k : Nat) (vs : List Value) (i : Nat), k + vs.length ≤ l.length → (putC l k vs)[i]? = if k ≤ i ∧ i < k + vs.length then vs[i - k]?.map some else l[i]?
  | l, k, [], i, _ => by
    rw [if_neg (by simp)]; cases l <;> rfl
  | [], k, v :: vs, i, h => by simp at h
  | c :: l, 0, v :: vs, i, h => by
    simp only [List.length_cons] at h ⊢
    cases i with
    | zero => simp [putC]
    | succ i =>
      rw [putC, List.getElem?_cons_succ, putC_get l 0 vs i (by omega)]
      by_cases h1 : i < vs.length
      · rw [if_pos (by omega), if_pos (by omega)]; simp
      · rw [if_neg (by omega), if_neg (by omega)]; simp
  | c :: l, k + 1, v :: vs, i, h => by
    simp only [List.length_cons] at h ⊢
    cases i with
    | zero => simp [putC]
    | succ i =>
      show (c :: putC l k (v :: vs))[i + 1]? = _
      rw [List.getElem?_cons_succ, putC_get l k (v :: vs) i (by simp; omega)]
      simp only [List.length_cons]
      by_cases h1 : k ≤ i ∧ i < k + (vs.length + 1)
      · rw [if_pos h1, if_pos (by omega), show i + 1 - (k + 1) = i - k by omega]
      · rw [if_neg h1, if_neg (by omega)]; simp
def putsK (vs : List Value) : List (Option Value) → Option (List (Option Value)) :=
  @List.rec Value (fun _ => List (Option Value) → Option (List (Option Value))) (fun l => some l) (fun v _ ih l => @List.rec (Option Value) (fun _ => Option (List (Option Value))) none (fun _ r _ => @Option.rec (List (Option Value)) (fun _ => Option (List (Option Value))) none (fun r' => some (some v :: r')) (ih r)) l) vs
def storeK (vs : List Value) (k : Nat) : List (Option Value) → Option (List (Option Value)) :=
  @Nat.rec (fun _ => List (Option Value) → Option (List (Option Value))) (putsK vs) (fun _ ih l => @List.rec (Option Value) (fun _ => Option (List (Option Value))) none (fun c r _ => @Option.rec (List (Option Value)) (fun _ => Option (List (Option Value))) none (fun r' => some (c :: r')) (ih r)) l) k
theorem putsK_eq : ∀ (vs : List Value) (l : List (Option Value)), putsK vs l = if vs.length ≤ l.length then some (putC l 0 vs) else none
  | [], l => by rw [if_pos (by simp)]; show some l = _; cases l <;> rfl
  | v :: vs, [] => rfl
  | v :: vs, c :: r => by
    show (@Option.rec (List (Option Value)) (fun _ => Option (List (Option Value))) none (fun r' => some (some v :: r')) (putsK vs r)) = _
    rw [putsK_eq vs r]
    by_cases h : vs.length ≤ r.length
    · rw [if_pos h, if_pos (by simpa using h)]; rfl
    · rw [if_neg h, if_neg (by simpa using h)]
theorem storeK_eq (vs : List Value) : ∀ (k : Nat) (l : List (Option Value)), storeK vs k l = if k + vs.length ≤ l.length then some (putC l k vs) else none
  | 0, l => by rw [Nat.zero_add]; exact putsK_eq vs l
  | k + 1, [] => by rw [if_neg (by simp)]; rfl
  | k + 1, c :: r => by
    show (@Option.rec (List (Option Value)) (fun _ => Option (List (Option Value))) none (fun r' => some (c :: r')) (storeK vs k r)) = _
    rw [storeK_eq vs k r]
    by_cases h : k + vs.length ≤ r.length
    · rw [if_pos h, if_pos (by simp; omega)]
      cases vs with
      | nil => cases r <;> rfl
      | cons v vs => rfl
    · rw [if_neg h, if_neg (by simp; omega)]
def storeO (H : Heap) (id k : Nat) (vs : List Value) : AObj → Option Heap :=
  @AObj.rec (fun _ => Option Heap) (fun l opn mate => @Option.rec (List (Option Value)) (fun _ => Option Heap) none (fun l' => @Option.rec Heap (fun _ => Option Heap) none (fun H1 => H1.set id (some (.cells l' opn none))) (H.kill mate)) (storeK vs k l)) (fun _ _ => none) (fun _ _ => none) (fun _ _ _ _ => none) (fun _ _ _ => none)
def Heap.store (H : Heap) (id k : Nat) (vs : List Value) : Option Heap := @Option.rec AObj (fun _ => Option Heap) none (storeO H id k vs) (H.get id)
theorem Heap.store_eq (H : Heap) (id k : Nat) (vs : List Value) : H.store id k vs = match H.get id with
  | some (.cells l opn mate) => if k + vs.length ≤ l.length then (H.kill mate).bind fun H1 => H1.set id (some (.cells (putC l k vs) opn none)) else none
  | _ => none := by
  unfold Heap.store
  cases H.get id with
  | none => rfl
  | some o =>
    show storeO H id k vs o = _
    cases o with
    | cells l opn mate =>
      show (@Option.rec (List (Option Value)) (fun _ => Option Heap) none (fun l' => @Option.rec Heap (fun _ => Option Heap) none (fun H1 => H1.set id (some (.cells l' opn none))) (H.kill mate)) (storeK vs k l)) = _
      rw [storeK_eq]
      simp only []
      by_cases h : k + vs.length ≤ l.length
      · rw [if_pos h, if_pos h]
        show (@Option.rec Heap (fun _ => Option Heap) none (fun H1 => H1.set id (some (.cells (putC l k vs) opn none))) (H.kill mate)) = _
        cases H.kill mate <;> rfl
      · rw [if_neg h, if_neg h]
    | map es c => rfl
    | siter s p => rfl
    | miter m s e t => rfl
    | typed t l r => rfl
theorem size_of_objIs {φ : Phi} {l : List (Option Value)} {opn mate : Option Nat} {B : Blk} {c : Obj} (h : objIs φ (.cells l opn mate) B c) : ∃ cs el fr, c = .cells cs el fr ∧ (fr.2 ≤ fr.1 ∨ cs.size ≤ fr.1) ∧ B.base + l.length ≤ cs.size ∧
    ∀ (i : Nat) (v : Value), l[i]? = some (some v) → ∃ x, cs[B.base + i]? = some x ∧ conc φ v = some x := by
  obtain ⟨cs, el, fr, e, hf, hs, hv⟩ := h
  refine ⟨cs, el, fr, e, hf, ?_, hv⟩
  cases opn with
  | none => simp at hs; omega
  | some es => simp at hs; omega
theorem Rel.store {φ : Phi} {H H' : Heap} {w : World} {id k : Nat} {vs xs : List Value} {B : Blk} (h : Rel φ H w) (hs : H.store id k vs = some H') (hB : φ.at_ id = some B) (hx : concL φ vs = some xs) :
    ∃ cs el fr, w.heap[B.blk]? = some (.cells cs el fr) ∧ (fr.2 ≤ fr.1 ∨ cs.size ≤ fr.1) ∧ B.base + k + xs.length ≤ cs.size ∧ Rel φ H' (putW w B.blk (B.base + k) xs) ∧ Step φ H w φ H' (putW w B.blk (B.base + k) xs) := by
  rw [Heap.store_eq] at hs
  split at hs
  · next l opn mate hg =>
    split at hs
    · next hk =>
      cases hK : H.kill mate with
      | none => rw [hK] at hs; cases hs
      | some H1 =>
        rw [hK] at hs
        simp only [Option.bind_some] at hs
        have hget : ∀ m, H'.get m = if m = id then some (.cells (putC l k vs) opn none) else if mate = some m then none else H.get m := fun m => by rw [Heap.set_get hs, Heap.kill_get hK]
        have hnext : H'.next = H.next := by rw [Heap.set_next hs, Heap.kill_next hK]
        obtain ⟨c, hc, ho⟩ := h.objs id _ B hg hB
        have ho' := ho
        obtain ⟨cs, el, fr, rfl, hf, hsz, hv⟩ := ho
        obtain ⟨_, _, _, e2, _, hsz2, _⟩ := size_of_objIs ho'
        cases e2
        have hlen := concL_len hx
        have hold : ∀ j o C, j ≠ id → H'.get j = some o → φ.at_ j = some C → H.get j = some o ∧ C.blk ≠ B.blk := fun j o C hj hgj hC => by
          rw [hget, if_neg hj] at hgj
          split at hgj
          · cases hgj
          · next hm =>
            refine ⟨hgj, fun e => ?_⟩
            rcases h.alias id j _ _ B C hg hgj hB hC e.symm with e | e
            · exact hj e.symm
            · exact hm e
        refine ⟨cs, el, fr, hc, hf, by omega, ⟨fun j o C hgj hC => ?_, fun j C hC => ?_, fun i j o p B1 C1 hi hj bi bj he => ?_⟩, ?_⟩
        · by_cases hj : j = id
          · subst hj
            rw [hB] at hC; cases hC
            rw [hget, if_pos rfl] at hgj; cases hgj
            refine ⟨_, putW_at hc, ⟨_, el, fr, rfl, by rw [putL_size]; exact hf, ?_, fun i v hi => ?_⟩⟩
            · rw [putL_size]; cases opn <;> simp only [putC_len] at * <;> exact hsz
            · rw [putC_get _ _ _ _ hk] at hi
              rw [putL_get _ _ _ _ (by omega)]
              split at hi
              · next hr =>
                rw [if_pos (by omega), show B.base + i - (B.base + k) = i - k by omega]
                cases hvi : vs[i - k]? with
                | none => rw [hvi] at hi; cases hi
                | some u =>
                  rw [hvi] at hi; cases hi
                  exact concL_get hx _ _ hvi
              · next hr => rw [if_neg (by omega)]; exact hv i v hi
          · obtain ⟨h1, h2⟩ := hold j o C hj hgj hC
            rw [putW_ne h2]; exact h.objs j o C h1 hC
        · rw [hnext, putW_size]; exact h.dom j C hC
        · by_cases h1 : i = id
          · by_cases h2 : j = id
            · exact .inl (h1.trans h2.symm)
            · subst h1; rw [hB] at bi; cases bi
              exact absurd he.symm (hold j p C1 h2 hj bj).2
          · by_cases h2 : j = id
            · subst h2; rw [hB] at bj; cases bj
              exact absurd he (hold i o B1 h1 hi bi).2
            · exact h.alias i j o p B1 C1 (hold i o B1 h1 hi bi).1 (hold j p C1 h2 hj bj).1 bi bj he
        · refine ⟨Phi.le_refl φ, fun _ _ h => .inl h, by rw [putW_size]; exact Nat.le_refl _, fun b hb hn => putW_ne fun e => hn ⟨id, _, B, hg, hB, e.symm⟩, fun b hb ho => ?_, by rw [hnext]; exact Nat.le_refl _, rfl, rfl, rfl⟩
          obtain ⟨j, o, C, h1, h2, h3⟩ := ho
          by_cases hj : j = id
          · subst hj; rw [hB] at h2; cases h2; exact ⟨j, _, B, hg, hB, h3⟩
          · exact ⟨j, o, C, (hold j o C hj h1 h2).1, h2, h3⟩
    · cases hs
  · cases hs
def allKnown : List (Option Value) → Option (List Value)
  | [] => some []
  | some v :: l => (allKnown l).map (v :: ·)
  | none :: _ => none
theorem allKnown_get : ∀ {l : List (Option Value)} {vs : List Value}, allKnown l = some vs → l = vs.map some
  | [], vs, h => by simp [allKnown] at h; subst h; rfl
  | some v :: l, vs, h => by
    simp only [allKnown] at h
    cases hl : allKnown l with
    | none => rw [hl] at h; cases h
    | some us => rw [hl] at h; cases h; rw [allKnown_get hl]; rfl
  | none :: l, vs, h => by simp [allKnown] at h
def nthK {α : Type} (l : List α) : Nat → Option α := @List.rec α (fun _ => Nat → Option α) (fun _ => none) (fun v _ ih n => @Nat.rec (fun _ => Option α) (some v) (fun n _ => ih n) n) l
theorem nthK_eq {α : Type} : ∀ (l : List α) (n : Nat), nthK l n = l[n]?
  | [], n => by simp [nthK]
  | v :: l, 0 => rfl
  | v :: l, n + 1 => by show nthK l n = _; rw [nthK_eq l n]; rfl
theorem nthB (s : ByteArray) (n : Nat) : nthK s.data.toList n = s[n]? := by
  rw [nthK_eq]
  obtain ⟨a⟩ := s
  simp only [Array.getElem?_toList]
  by_cases h : n < a.size
  · rw [Array.getElem?_eq_getElem h, getElem?_pos (ByteArray.mk a) n (show n < (ByteArray.mk a).size from h)]; rfl
  · rw [Array.getElem?_eq_none (by omega), getElem?_neg (ByteArray.mk a) n (show ¬ n < (ByteArray.mk a).size from h)]
def takeLK {α : Type} (n : Nat) : List α → List α := @Nat.rec (fun _ => List α → List α) (fun _ => []) (fun _ ih l => @List.rec α (fun _ => List α) [] (fun v r _ => v :: ih r) l) n
def sliceK {α : Type} (off n : Nat) : List α → List α := @Nat.rec (fun _ => List α → List α) (takeLK n) (fun _ ih l => @List.rec α (fun _ => List α) [] (fun _ r _ => ih r) l) off
theorem takeLK_eq {α : Type} : ∀ (n : Nat) (l : List α), takeLK n l = l.take n
  | 0, l => by rw [List.take_zero]; rfl
  | n + 1, [] => rfl
  | n + 1, v :: r => by show v :: takeLK n r = _; rw [takeLK_eq n r]; rfl
theorem sliceK_eq {α : Type} (n : Nat) : ∀ (off : Nat) (l : List α), sliceK off n l = (l.drop off).take n
  | 0, l => by show takeLK n l = _; rw [takeLK_eq]; rfl
  | k + 1, [] => by show ([] : List α) = _; simp
  | k + 1, v :: r => by show sliceK k n r = _; rw [sliceK_eq n k r]; rfl
def takeK (n : Nat) : List (Option Value) → Option (List Value) :=
  @Nat.rec (fun _ => List (Option Value) → Option (List Value)) (fun _ => some []) (fun _ ih l => @List.rec (Option Value) (fun _ => Option (List Value)) none (fun c r _ => @Option.rec Value (fun _ => Option (List Value)) none (fun v => @Option.rec (List Value) (fun _ => Option (List Value)) none (fun vs => some (v :: vs)) (ih r)) c) l) n
def loadK (n k : Nat) : List (Option Value) → Option (List Value) :=
  @Nat.rec (fun _ => List (Option Value) → Option (List Value)) (takeK n) (fun _ ih l => @List.rec (Option Value) (fun _ => Option (List Value)) none (fun _ r _ => ih r) l) k
theorem takeK_eq : ∀ (n : Nat) (l : List (Option Value)), takeK n l = if n ≤ l.length then allKnown (l.take n) else none
  | 0, l => by rw [if_pos (by simp)]; rfl
  | n + 1, [] => by rw [if_neg (by simp)]; rfl
  | n + 1, none :: r => by
    show (none : Option (List Value)) = _
    by_cases h : n + 1 ≤ (none :: r : List (Option Value)).length
    · rw [if_pos h]; rfl
    · rw [if_neg h]
  | n + 1, some v :: r => by
    show (@Option.rec (List Value) (fun _ => Option (List Value)) none (fun vs => some (v :: vs)) (takeK n r)) = _
    rw [takeK_eq n r]
    by_cases h : n ≤ r.length
    · rw [if_pos h, if_pos (by simpa using h), List.take_succ_cons]
      simp only [allKnown]
      cases allKnown (r.take n) <;> rfl
    · rw [if_neg h, if_neg (by simpa using h)]
theorem loadK_eq (n : Nat) : ∀ (k : Nat) (l : List (Option Value)), loadK n k l = if k + n ≤ l.length then allKnown ((l.drop k).take n) else none
  | 0, l => by rw [Nat.zero_add]; exact takeK_eq n l
  | k + 1, [] => by rw [if_neg (by simp)]; rfl
  | k + 1, c :: r => by
    show loadK n k r = _
    rw [loadK_eq n k r]
    by_cases h : k + n ≤ r.length
    · rw [if_pos h, if_pos (by simp; omega), List.drop_succ_cons]
    · rw [if_neg h, if_neg (by simp; omega)]
def loadO (n k : Nat) : AObj → Option (List Value) := @AObj.rec (fun _ => Option (List Value)) (fun l _ _ => loadK n k l) (fun _ _ => none) (fun _ _ => none) (fun _ _ _ _ => none) (fun _ _ _ => none)
def Heap.load (H : Heap) (id k n : Nat) : Option (List Value) :=
  @Option.rec AObj (fun _ => Option (List Value)) none (fun o => loadO n k o) (H.get id)
theorem Heap.load_eq (H : Heap) (id k n : Nat) : H.load id k n = match H.get id with
  | some (.cells l _ _) => if k + n ≤ l.length then allKnown ((l.drop k).take n) else none
  | _ => none := by
  unfold Heap.load
  cases H.get id with
  | none => rfl
  | some o => cases o with
    | cells l opn mate => exact loadK_eq _ _ _
    | map es c => rfl
    | siter s p => rfl
    | miter m s e t => rfl
    | typed t l r => rfl
theorem Rel.load {φ : Phi} {H : Heap} {w : World} {id k n : Nat} {vs : List Value} {B : Blk} (h : Rel φ H w) (hl : H.load id k n = some vs) (hB : φ.at_ id = some B) :
    ∃ cs el fr, w.heap[B.blk]? = some (.cells cs el fr) ∧ B.base + k + n ≤ cs.size ∧ vs.length = n ∧ concL φ vs = some (cs.extract (B.base + k) (B.base + k + n)).toList := by
  rw [Heap.load_eq] at hl
  split at hl
  · next l opn mate hg =>
    split at hl
    · next hk =>
      obtain ⟨c, hc, ho⟩ := h.objs id _ B hg hB
      obtain ⟨cs, el, fr, rfl, hf, hsz, hv⟩ := size_of_objIs ho
      have e := allKnown_get hl
      have hlen : vs.length = n := by have := congrArg List.length e; simp at this; omega
      refine ⟨cs, el, fr, hc, by omega, hlen, concL_of_get (by simp; omega) fun i v hi => ?_⟩
      have hi' : i < n := by have := (List.getElem?_eq_some_iff.1 hi).1; omega
      have h1 : l[k + i]? = some (some v) := by
        have h2 := congrArg (fun x => x[i]?) e
        simp only [List.getElem?_map, hi, List.getElem?_take, List.getElem?_drop, if_pos hi'] at h2
        simpa using h2
      obtain ⟨x, h3, h4⟩ := hv _ _ h1
      refine ⟨x, ?_, h4⟩
      rw [Array.getElem?_toList, Array.getElem?_extract, if_pos (by omega), ← h3]
      congr 1; omega
    · cases hl
  · cases hl
def cutC : List (Option Value) → Nat → List (Option Value)
  | [], _ => []
  | _ :: l, 0 => none :: cutC l 0
  | c :: l, k + 1 => c :: cutC l k
theorem cutC_len : ∀ (l : List (Option Value)) (k : Nat), (cutC l k).length = l.length
  | [], _ => rfl
  | _ :: l, 0 => by simp [cutC, cutC_len l 0]
  | c :: l, k + 1 => by simp [cutC, cutC_len l k]
theorem cutC_get : ∀ (l : List (Option Value)) (k i : Nat) (v : Value), (cutC l k)[i]? = some (some v) → i < k ∧ l[i]? = some (some v)
  | [], _, i, v, h => by simp [cutC] at h
  | _ :: l, 0, i, v, h => by
    cases i with
    | zero => simp [cutC] at h
    | succ i => rw [cutC, List.getElem?_cons_succ] at h; have := (cutC_get l 0 i v h).1; omega
  | c :: l, k + 1, i, v, h => by
    cases i with
    | zero => simp [cutC] at h ⊢; exact h
    | succ i => rw [cutC, List.getElem?_cons_succ] at h; have := cutC_get l k i v h; simp; exact ⟨by omega, this.2⟩
def Heap.extend (H : Heap) (id k n es : Nat) (vs : List Value) : Option Heap :=
  match H.get id with
  | some (.cells l opn mate) =>
    if k + n ≤ l.length then (H.kill mate).bind fun H1 => (H1.set id (some (.cells (cutC l (k + n)) opn (some H.next)))).bind fun H2 => H2.add (.cells ((l.drop k).take n ++ vs.map some) (some es) (some id))
    else none
  | _ => none
section
variable {φ : Phi} {H H' : Heap} {w : World} {id k n es : Nat} {vs xs : List Value} {B : Blk}
theorem extend_get (hs : H.extend id k n es vs = some H') : ∃ l opn mate, H.get id = some (.cells l opn mate) ∧ k + n ≤ l.length ∧ H'.next = H.next + 1 ∧
    (∀ m, H'.get m = if m = H.next then some (.cells ((l.drop k).take n ++ vs.map some) (some es) (some id)) else if m = id then some (.cells (cutC l (k + n)) opn (some H.next)) else if mate = some m then none else H.get m) := by
  unfold Heap.extend at hs
  split at hs
  · next l opn mate hg =>
    split at hs
    · next hk =>
      cases hK : H.kill mate with
      | none => rw [hK] at hs; cases hs
      | some H1 =>
        rw [hK] at hs
        simp only [Option.bind_some] at hs
        cases hS : H1.set id (some (.cells (cutC l (k + n)) opn (some H.next))) with
        | none => rw [hS] at hs; cases hs
        | some H2 =>
          rw [hS] at hs
          simp only [Option.bind_some] at hs
          have e1 : H2.next = H.next := by rw [Heap.set_next hS, Heap.kill_next hK]
          refine ⟨l, opn, mate, hg, hk, by rw [Heap.add_next hs, e1], fun m => ?_⟩
          rw [Heap.add_get hs, e1, Heap.set_get hS, Heap.kill_get hK]
    · cases hs
  · cases hs
theorem Rel.extend_in {e : Nat} (h : Rel φ H w) (hs : H.extend id k n es vs = some H') (hB : φ.at_ id = some B) (hx : concL φ vs = some xs)
    (hroom : ∀ cs el fr, w.heap[B.blk]? = some (.cells cs el fr) → B.base + k + n + xs.length + e * es ≤ cs.size) :
    ∃ cs el fr φ', w.heap[B.blk]? = some (.cells cs el fr) ∧ (fr.2 ≤ fr.1 ∨ cs.size ≤ fr.1) ∧ B.base + k + n + xs.length ≤ cs.size ∧ φ'.at_ H.next = some ⟨B.blk, B.base + k, e⟩ ∧
      Rel φ' H' (putW w B.blk (B.base + k + n) xs) ∧ Step φ H w φ' H' (putW w B.blk (B.base + k + n) xs) := by
  obtain ⟨l, opn, mate, hg, hk, hnext, hget⟩ := extend_get hs
  obtain ⟨c, hc, ho⟩ := h.objs id _ B hg hB
  obtain ⟨cs, el, fr, rfl, hf, hsz, hv⟩ := ho
  have hr := hroom _ _ _ hc
  have hn : φ.at_ H.next = none := by
    cases hb : φ.at_ H.next with
    | none => rfl
    | some b => exact absurd (h.dom _ _ hb).1 (Nat.lt_irrefl _)
  have hidn : id ≠ H.next := fun e => by rw [e, hn] at hB; cases hB
  have hle := Phi.le_put (B := ⟨B.blk, B.base + k, e⟩) hn
  have hlen := concL_len hx
  have hold : ∀ j o C, j ≠ id → j ≠ H.next → H'.get j = some o → φ.at_ j = some C → H.get j = some o ∧ C.blk ≠ B.blk := fun j o C hj hj2 hgj hC => by
    rw [hget, if_neg hj2, if_neg hj] at hgj
    split at hgj
    · cases hgj
    · next hm =>
      refine ⟨hgj, fun e => ?_⟩
      rcases h.alias id j _ _ B C hg hgj hB hC e.symm with e | e
      · exact hj e.symm
      · exact hm e
  refine ⟨cs, el, fr, φ.put H.next ⟨B.blk, B.base + k, e⟩, hc, hf, by omega, Phi.put_at _ _ _, ⟨fun j o C hgj hC => ?_, fun j C hC => ?_, fun i j o p B1 C1 hi hj bi bj he => ?_⟩, ?_⟩
  · by_cases h1 : j = H.next
    · subst h1
      rw [Phi.put_at] at hC; cases hC
      rw [hget, if_pos rfl] at hgj; cases hgj
      refine ⟨_, putW_at hc, ⟨_, el, fr, rfl, by rw [putL_size]; exact hf, ?_, fun i v hi => ?_⟩⟩
      · simp only [List.length_append, List.length_take, List.length_drop, List.length_map, putL_size]; omega
      · dsimp only
        rw [putL_get _ _ _ _ (by omega)]
        simp only [List.getElem?_append, List.length_take, List.length_drop] at hi
        split at hi
        · next hlt =>
          rw [List.getElem?_take, if_pos (by omega), List.getElem?_drop] at hi
          rw [if_neg (by omega)]
          obtain ⟨x, g1, g2⟩ := hv _ _ hi
          exact ⟨x, by rw [← g1]; congr 1; omega, conc_le hle _ _ g2⟩
        · next hge =>
          rw [List.getElem?_map] at hi
          cases hvi : vs[i - min n (l.length - k)]? with
          | none => rw [hvi] at hi; cases hi
          | some u =>
            rw [hvi] at hi; cases hi
            obtain ⟨y, g1, g2⟩ := concL_get hx _ _ hvi
            have hlt := (List.getElem?_eq_some_iff.1 hvi).1
            refine ⟨y, ?_, conc_le hle _ _ g2⟩
            rw [if_pos (by omega), ← g1]; congr 1; omega
    · rw [Phi.put_ne h1] at hC
      by_cases h2 : j = id
      · subst h2
        rw [hB] at hC; cases hC
        rw [hget, if_neg h1, if_pos rfl] at hgj; cases hgj
        refine ⟨_, putW_at hc, ⟨_, el, fr, rfl, by rw [putL_size]; exact hf, ?_, fun i v hi => ?_⟩⟩
        · rw [putL_size]; cases opn <;> simp only [cutC_len] at * <;> exact hsz
        · obtain ⟨g1, g2⟩ := cutC_get _ _ _ _ hi
          rw [putL_get _ _ _ _ (by omega), if_neg (by omega)]
          obtain ⟨x, g3, g4⟩ := hv i v g2
          exact ⟨x, g3, conc_le hle _ _ g4⟩
      · obtain ⟨g1, g2⟩ := hold j o C h2 h1 hgj hC
        rw [putW_ne g2]
        obtain ⟨c', g3, g4⟩ := h.objs j o C g1 hC
        exact ⟨c', g3, objIs_le hle g4⟩
  · rw [hnext, putW_size]
    by_cases h1 : j = H.next
    · subst h1; rw [Phi.put_at] at hC; cases hC
      exact ⟨by omega, (h.dom _ _ hB).2⟩
    · rw [Phi.put_ne h1] at hC
      have := h.dom j C hC
      exact ⟨by omega, this.2⟩
  · by_cases h1 : i = H.next
    · by_cases h2 : j = H.next
      · exact .inl (h1.trans h2.symm)
      · subst h1
        rw [Phi.put_at] at bi; cases bi
        rw [Phi.put_ne h2] at bj
        rw [hget, if_pos rfl] at hi; cases hi
        by_cases h3 : j = id
        · subst h3; exact .inr rfl
        · exact absurd he.symm (hold j p C1 h3 h2 hj bj).2
    · rw [Phi.put_ne h1] at bi
      by_cases h2 : j = H.next
      · subst h2
        rw [Phi.put_at] at bj; cases bj
        by_cases h3 : i = id
        · subst h3; rw [hget, if_neg h1, if_pos rfl] at hi; cases hi; exact .inr rfl
        · exact absurd he (hold i o B1 h3 h1 hi bi).2
      · rw [Phi.put_ne h2] at bj
        by_cases h3 : i = id
        · by_cases h4 : j = id
          · exact .inl (h3.trans h4.symm)
          · subst h3; rw [hB] at bi; cases bi
            exact absurd he.symm (hold j p C1 h4 h2 hj bj).2
        · by_cases h4 : j = id
          · subst h4; rw [hB] at bj; cases bj
            exact absurd he (hold i o B1 h3 h1 hi bi).2
          · exact h.alias i j o p B1 C1 (hold i o B1 h3 h1 hi bi).1 (hold j p C1 h4 h2 hj bj).1 bi bj he
  · refine ⟨hle, fun j C hC => ?_, by rw [putW_size]; exact Nat.le_refl _, fun b hb hn' => putW_ne fun e => hn' ⟨id, _, B, hg, hB, e.symm⟩, fun b hb ho' => ?_, by omega, rfl, rfl, rfl⟩
    · by_cases h1 : j = H.next
      · subst h1; exact .inr (Nat.le_refl _)
      · rw [Phi.put_ne h1] at hC; exact .inl hC
    · obtain ⟨j, o, C, g1, g2, g3⟩ := ho'
      by_cases h1 : j = H.next
      · subst h1; rw [Phi.put_at] at g2; cases g2; exact ⟨id, _, B, hg, hB, g3⟩
      · rw [Phi.put_ne h1] at g2
        by_cases h2 : j = id
        · subst h2; rw [hB] at g2; cases g2; exact ⟨j, _, B, hg, hB, g3⟩
        · exact ⟨j, o, C, (hold j o C h2 h1 g1 g2).1, g2, g3⟩
theorem Rel.extend_new {e m : Nat} {cs : Array Value} {el : TypeId} (h : Rel φ H w) (hs : H.extend id k n es vs = some H') (hB : φ.at_ id = some B) (hx : concL φ vs = some xs)
    (hcs : ∀ ds dl fr, w.heap[B.blk]? = some (.cells ds dl fr) → (∀ i, i < n → cs[i]? = ds[B.base + k + i]?)) (hnew : ∀ i, i < xs.length → cs[n + i]? = xs[i]?) (hsz : n + xs.length + e * es ≤ cs.size) :
    ∃ φ', φ'.at_ H.next = some ⟨w.heap.size, 0, e⟩ ∧ Rel φ' H' (pushW w (.cells cs el) m) ∧ Step φ H w φ' H' (pushW w (.cells cs el) m) := by
  obtain ⟨l, opn, mate, hg, hk, hnext, hget⟩ := extend_get hs
  obtain ⟨c, hc, ho⟩ := h.objs id _ B hg hB
  obtain ⟨ds, dl, fr, rfl, hf, hsz', hv⟩ := ho
  have hn : φ.at_ H.next = none := by
    cases hb : φ.at_ H.next with
    | none => rfl
    | some b => exact absurd (h.dom _ _ hb).1 (Nat.lt_irrefl _)
  have hidn : id ≠ H.next := fun e => by rw [e, hn] at hB; cases hB
  have hle := Phi.le_put (B := ⟨w.heap.size, 0, e⟩) hn
  have hlen := concL_len hx
  have h1 : Rel φ H' w := by
    refine ⟨fun j o C hgj hC => ?_, fun j C hC => ?_, fun i j o p B1 C1 hi hj bi bj he => ?_⟩
    · rw [hget] at hgj
      split at hgj
      · next hj => subst hj; rw [hn] at hC; cases hC
      · split at hgj
        · next hj =>
          subst hj; cases hgj
          rw [hB] at hC; cases hC
          exact ⟨_, hc, ds, dl, fr, rfl, hf, by cases opn <;> simp only [cutC_len] at * <;> exact hsz', fun i v hi => hv i v (cutC_get _ _ _ _ hi).2⟩
        · split at hgj
          · cases hgj
          · exact h.objs j o C hgj hC
    · have := h.dom j C hC; exact ⟨by omega, this.2⟩
    · rw [hget] at hi hj
      split at hi
      · next hj' => subst hj'; rw [hn] at bi; cases bi
      · split at hj
        · next hj' => subst hj'; rw [hn] at bj; cases bj
        · split at hj
          · next hj' =>
            subst hj'
            split at hi
            · next hi' => exact .inl hi'
            · split at hi
              · cases hi
              · next hm =>
                rcases h.alias j i _ o C1 B1 hg hi bj bi he.symm with e | e
                · exact .inl e.symm
                · exact absurd e hm
          · split at hj
            · cases hj
            · next hjm =>
              split at hi
              · next hi' =>
                subst hi'
                rcases h.alias i j _ p B1 C1 hg hj bi bj he with e | e
                · exact .inl e
                · exact absurd e hjm
              · split at hi
                · cases hi
                · exact h.alias i j o p B1 C1 hi hj bi bj he
  have hobj : H'.get H.next = some (.cells ((l.drop k).take n ++ vs.map some) (some es) (some id)) := by rw [hget, if_pos rfl]
  have hb := h1.born (c := .cells cs el) (e := e) (n := m) hn (by omega) hobj ⟨cs, el, (0, 0), rfl, .inl (Nat.le_refl _), by
      simp only [List.length_append, List.length_take, List.length_drop, List.length_map]; omega, fun i v hi => by
      simp only [List.getElem?_append, List.length_take, List.length_drop] at hi
      split at hi
      · next hlt =>
        rw [List.getElem?_take, if_pos (by omega), List.getElem?_drop] at hi
        obtain ⟨x, g1, g2⟩ := hv _ _ hi
        exact ⟨x, by show cs[0 + i]? = _; rw [Nat.zero_add, hcs _ _ _ hc i (by omega), ← g1]; congr 1; omega, g2⟩
      · next hge =>
        rw [List.getElem?_map] at hi
        cases hvi : vs[i - min n (l.length - k)]? with
        | none => rw [hvi] at hi; cases hi
        | some u =>
          rw [hvi] at hi; cases hi
          obtain ⟨y, g1, g2⟩ := concL_get hx _ _ hvi
          have hlt := (List.getElem?_eq_some_iff.1 hvi).1
          refine ⟨y, ?_, g2⟩
          show cs[0 + i]? = _
          have := hnew (i - min n (l.length - k)) (by omega)
          rw [g1] at this
          rw [← this]; congr 1; omega⟩
  have hs2 := Step.born (H := H') (c := .cells cs el) (e := e) (n := m) hn (fun i B hi => (h.dom i B hi).2)
  refine ⟨_, Phi.put_at _ _ _, hb, ⟨hle, fun j C hC => ?_, by simp [pushW], fun b hb' _ => hs2.1 b hb', fun b hb' ho' => ?_, by omega, rfl, rfl, rfl⟩⟩
  · by_cases h1 : j = H.next
    · subst h1; exact .inr (Nat.le_refl _)
    · rw [Phi.put_ne h1] at hC; exact .inl hC
  · obtain ⟨j, o, C, g1, g2, g3⟩ := hs2.2 b hb' ho'
    rw [hget] at g1
    split at g1
    · next hj => subst hj; rw [hn] at g2; cases g2
    · split at g1
      · next hj => subst hj; exact ⟨j, _, C, hg, g2, g3⟩
      · split at g1
        · cases g1
        · exact ⟨j, o, C, g1, g2, g3⟩
end
end Ev
end Go.Proofs.YtifoekadjnlhcaaGreatDoor
noncomputable section
namespace Go.Proofs.YtifoekadjnlhcaaGreatDoor
open Go.RowKit
set_option linter.unusedVariables false
set_option linter.unusedSimpArgs false
namespace Ev
section
variable {P : Program} {w : World} {φ : Phi}
theorem underlying_run {t : TypeId} {d : TypeDesc} (h : P.underlying t = some d) : (underlying t).run P w = .ok d w := by
  unfold underlying program
  show (Sem.bind (.program .pure) _).run P w = _
  simp only [Sem.bind, Sem.run, h]
  rfl
theorem typeInfo_run {t : TypeId} {i : TypeInfo} (h : P.info? t = some i) : (typeInfo t).run P w = .ok i w := by
  unfold typeInfo program
  show (Sem.bind (.program .pure) _).run P w = _
  simp only [Sem.bind, Sem.run, h]
  rfl
theorem sizeOf_run {t : TypeId} {n : Nat} (h : (P.info? t).map (·.size) = some n) : (sizeOf t).run P w = .ok n w := by
  unfold Go.sizeOf
  cases hi : P.info? t with
  | none => rw [hi] at h; cases h
  | some i => rw [hi] at h; cases h; rw [bind_ok (typeInfo_run hi)]; rfl
theorem zeroValue_run {t : TypeId} {v : Value} (h : (P.info? t).bind (·.zero) = some v) : (zeroValue t).run P w = .ok v w := by
  unfold zeroValue
  cases hi : P.info? t with
  | none => rw [hi] at h; cases h
  | some i => rw [hi] at h; rw [bind_ok (typeInfo_run hi)]; simp at h; rw [h]; rfl
def tSize (P : Program) (t : TypeId) : Option Nat := (P.info? t).map (·.size)
def tAgg (P : Program) (t : TypeId) : Option Bool := match P.underlying t with
  | some (.struct _) => some true
  | some (.array _ _) => some true
  | some _ => some false
  | none => none
theorem isAgg_run {t : TypeId} {b : Bool} (h : tAgg P t = some b) : (isAgg t).run P w = .ok b w := by
  unfold isAgg
  unfold tAgg at h
  cases hu : P.underlying t with
  | none => rw [hu] at h; cases h
  | some d =>
    rw [hu] at h
    rw [bind_ok (underlying_run hu)]
    cases d <;> simp at h <;> subst h <;> rfl
def plainS : Value → Bool
  | .bool _ => true
  | .int _ _ => true
  | .string _ => true
  | .nilFunc => true
  | .nilIface => true
  | .pointer none => true
  | .slice none _ _ => true
  | .map none => true
  | _ => false
def plainV : Value → Bool
  | .agg ⟨l⟩ => l.all plainS
  | v => plainS v
theorem conc_plainS {v : Value} (h : plainS v = true) : conc φ v = some v := by
  cases v <;> simp [plainS] at h <;> try rfl
  case pointer a => cases a <;> simp at h; rfl
  case slice a _ _ => cases a <;> simp at h; rfl
  case map a => cases a <;> simp at h; rfl
theorem concL_plain : ∀ {l : List Value}, l.all plainS = true → concL φ l = some l
  | [], _ => rfl
  | v :: l, h => by
    simp only [List.all_cons, Bool.and_eq_true] at h
    simp only [concL, conc_plainS h.1, concL_plain h.2]
theorem conc_plainV {v : Value} (h : plainV v = true) : conc φ v = some v := by
  cases v
  case agg cs => obtain ⟨l⟩ := cs; simp only [plainV] at h; simp only [conc, concL_plain h]; rfl
  all_goals exact conc_plainS h
theorem concL_drop : ∀ {l x : List Value} (k : Nat), concL φ l = some x → concL φ (l.drop k) = some (x.drop k)
  | [], x, k, h => by simp [concL] at h; subst h; simp [concL]
  | v :: l, x, 0, h => by simpa using h
  | v :: l, x, k + 1, h => by
    simp only [concL] at h
    split at h
    · next a b h1 h2 => cases h; simpa using concL_drop k h2
    · cases h
theorem concL_take : ∀ {l x : List Value} (k : Nat), concL φ l = some x → concL φ (l.take k) = some (x.take k)
  | [], x, k, h => by simp [concL] at h; subst h; simp [concL]
  | v :: l, x, 0, h => by simp [concL]
  | v :: l, x, k + 1, h => by
    simp only [concL] at h
    split at h
    · next a b h1 h2 => cases h; simp only [List.take_succ_cons, concL, h1, concL_take k h2]
    · cases h
theorem conc_agg {cs : List Value} {x : Value} (h : conc φ (.agg ⟨cs⟩) = some x) : ∃ l, concL φ cs = some l ∧ x = .agg l.toArray := by
  simp only [conc] at h
  cases hc : concL φ cs with
  | none => rw [hc] at h; cases h
  | some l => rw [hc] at h; cases h; exact ⟨l, rfl, rfl⟩
theorem conc_tuple {cs : List Value} {x : Value} (h : conc φ (.tuple ⟨cs⟩) = some x) : ∃ l, concL φ cs = some l ∧ x = .tuple l.toArray := by
  simp only [conc] at h
  cases hc : concL φ cs with
  | none => rw [hc] at h; cases h
  | some l => rw [hc] at h; cases h; exact ⟨l, rfl, rfl⟩
def partV (P : Program) (t : TypeId) (l : List Value) (off : Nat) : Option Value :=
  match tAgg P t with
  | some true => match tSize P t with
    | some n => some (.agg ⟨sliceK off n l⟩)
    | none => none
  | some false => nthK l off
  | none => none
theorem partV_eq (P : Program) (t : TypeId) (l : List Value) (off : Nat) : partV P t l off = match tAgg P t with
  | some true => (tSize P t).map fun n => .agg ⟨(l.drop off).take n⟩
  | some false => l[off]?
  | none => none := by
  unfold partV
  simp only [nthK_eq, sliceK_eq]
  split
  · cases tSize P t <;> rfl
  · rfl
  · rfl
theorem partV_ok {t : TypeId} {l xs : List Value} {off : Nat} {v : Value} (h : partV P t l off = some v) (hl : concL φ l = some xs) : ∃ x, conc φ v = some x ∧ ∀ w, (part t xs.toArray off).run P w = .ok x w := by
  rw [partV_eq] at h
  cases ha : tAgg P t with
  | none => rw [ha] at h; cases h
  | some b =>
    rw [ha] at h
    cases b with
    | true =>
      simp only at h
      cases hs : tSize P t with
      | none => rw [hs] at h; cases h
      | some n =>
        rw [hs] at h; cases h
        refine ⟨.agg ((xs.drop off).take n).toArray, by simp only [conc, concL_take n (concL_drop off hl)]; rfl, fun w => ?_⟩
        unfold part
        rw [bind_ok (isAgg_run ha)]
        simp only [if_true]
        rw [bind_ok (sizeOf_run hs), run_pure]
        congr 2
        simp [List.extract_eq_take_drop]
    | false =>
      simp only at h
      obtain ⟨y, h1, h2⟩ := concL_get hl _ _ h
      refine ⟨y, h2, fun w => ?_⟩
      unfold part
      rw [bind_ok (isAgg_run ha)]
      simp only [Bool.false_eq_true, if_false, List.getElem?_toArray, h1]
      rfl
def fieldV (P : Program) (t : TypeId) (v : Value) (f : Nat) : Option Value :=
  match P.underlying t, v with
  | some (.struct fs), .agg ⟨l⟩ => match fs.toList[f]? with
    | some fd => partV P fd.type l fd.offset
    | none => none
  | _, _ => none
theorem fieldV_ok {t : TypeId} {v u X : Value} {f : Nat} (h : fieldV P t v f = some u) (hv : conc φ v = some X) : ∃ x, conc φ u = some x ∧ ∀ w, (Instr.field t X f).run P w = .ok x w := by
  unfold fieldV at h
  split at h
  · next fs l hu =>
    obtain ⟨xs, hl, rfl⟩ := conc_agg hv
    split at h
    · next fd hf =>
      obtain ⟨x, h1, h2⟩ := partV_ok h hl
      refine ⟨x, h1, fun w => ?_⟩
      unfold Instr.field
      rw [bind_ok (underlying_run hu)]
      have hf' : fs[f]? = some fd := by simpa using hf
      simp only [hf', asAgg]
      rw [bind_ok (run_pure P _ w)]
      exact h2 w
    · cases h
  · cases h
end
end Ev
end Go.Proofs.YtifoekadjnlhcaaGreatDoor
noncomputable section
namespace Go.Proofs.YtifoekadjnlhcaaGreatDoor
open Go.RowKit
set_option linter.unusedVariables false
set_option linter.unusedSimpArgs false
namespace Ev
def eqFields (P : Program) (r : TypeId → Value → Value → Option Bool) : List Field → List Value → List Value → Option Bool
  | [], _, _ => some true
  | f :: fs, xs, ys =>
    if f.name ≠ "_" then
      match partV P f.type xs f.offset, partV P f.type ys f.offset with
      | some a, some b => match r f.type a b with
        | some true => eqFields P r fs xs ys
        | some false => some false
        | none => none
      | _, _ => none
    else eqFields P r fs xs ys
def eqElems (P : Program) (r : TypeId → Value → Value → Option Bool) (e : TypeId) (sz : Nat) : Nat → Nat → List Value → List Value → Option Bool
  | 0, _, _, _ => some true
  | n + 1, i, xs, ys =>
    match partV P e xs (i * sz), partV P e ys (i * sz) with
    | some a, some b => match r e a b with
      | some true => eqElems P r e sz n (i + 1) xs ys
      | some false => some false
      | none => none
    | _, _ => none
def eqV (P : Program) : Nat → TypeId → Value → Value → Option Bool
  | 0, _, _, _ => none
  | d + 1, t, x, y =>
    match P.underlying t, x, y with
    | some .bool, .bool a, .bool b => some (a == b)
    | some (.int _), .int k a, .int k' b => if k = k' then some (a == b) else none
    | some .string, .string a, .string b => some (a == b)
    | some (.pointer _), .pointer none, .pointer b => some b.isNone
    | some (.pointer _), .pointer (some _), .pointer none => some false
    | some (.interface _), .nilIface, .nilIface => some true
    | some (.interface _), .nilIface, .iface _ _ => some false
    | some (.interface _), .iface _ _, .nilIface => some false
    | some (.slice _), .slice none _ _, .slice b _ _ => some b.isNone
    | some (.slice _), .slice (some _) _ _, .slice none _ _ => some false
    | some (.map _ _), .map none, .map b => some b.isNone
    | some (.map _ _), .map (some _), .map none => some false
    | some (.func _ _ _), .nilFunc, .nilFunc => some true
    | some (.func _ _ _), .nilFunc, .func _ _ _ => some false
    | some (.func _ _ _), .func _ _ _, .nilFunc => some false
    | some (.struct fs), .agg ⟨xs⟩, .agg ⟨ys⟩ => if P.stoodInHeld t then none else eqFields P (eqV P d) fs.toList xs ys
    | some (.array n e), .agg ⟨xs⟩, .agg ⟨ys⟩ => match tSize P e with
      | some sz => eqElems P (eqV P d) e sz n 0 xs ys
      | none => none
    | some (.int _), .float .f64 n, .int .i64 a => tokCmp .eql n a
    | some (.int _), .int .i64 a, .float .f64 n => tokCmp .eql n a
    | some (.int _), .float .f64 n, .float .f64 m => if n = m ∧ (tokKind n).isSome then some true else none
    | some .string, .float .f64 n, .float .f64 m => if n = m ∧ n % 8 = 5 then some true else none
    | _, _, _ => none
section
variable {P : Program} {φ : Phi}
def RunsTo {α : Type} (P : Program) (s : Sem α) (a : α) : Prop := ∀ w, s.run P w = .ok a w
theorem fields_run {r : TypeId → Value → Value → Option Bool} {d : Nat} (hr : ∀ t x y b X Y, r t x y = some b → conc φ x = some X → conc φ y = some Y → RunsTo P (Op.equalIn d t X Y) b) :
    ∀ (fs : List Field) (xs ys X Y : List Value) (b : Bool), eqFields P r fs xs ys = some b → concL φ xs = some X → concL φ ys = some Y →
      RunsTo P (forIn fs ((none : Option Bool), ()) fun f __s => do
        if f.name ≠ "_" then
          let a ← part f.type X.toArray f.offset
          let b ← part f.type Y.toArray f.offset
          let c ← Op.equalIn d f.type a b
          if (!c) = true then pure (ForInStep.done (some false, ())) else pure (ForInStep.yield (none, ()))
        else pure (ForInStep.yield (none, ()))) (if b then (none, ()) else (some false, ()))
  | [], xs, ys, X, Y, b, h, hx, hy => by
    simp only [eqFields, Option.some.injEq] at h; subst h
    intro w; rfl
  | f :: fs, xs, ys, X, Y, b, h, hx, hy => by
    intro w
    rw [List.forIn_cons]
    unfold eqFields at h
    split at h
    · next hn =>
      split at h
      · next u v h1 h2 =>
        obtain ⟨U, g1, g2⟩ := partV_ok h1 hx
        obtain ⟨V, g3, g4⟩ := partV_ok h2 hy
        rw [if_pos hn]
        split at h
        · next hb =>
          have e1 := hr _ _ _ _ _ _ hb g1 g3
          rw [run_bind, bind_ok (g2 w), bind_ok (g4 w), bind_ok (e1 w)]
          exact fields_run hr fs xs ys X Y b h hx hy w
        · next hb =>
          cases h
          have e1 := hr _ _ _ _ _ _ hb g1 g3
          rw [run_bind, bind_ok (g2 w), bind_ok (g4 w), bind_ok (e1 w)]
          rfl
        · cases h
      · cases h
    · next hn =>
      rw [if_neg hn, run_bind]
      exact fields_run hr fs xs ys X Y b h hx hy w
theorem elems_run {r : TypeId → Value → Value → Option Bool} {d : Nat} (hr : ∀ t x y b X Y, r t x y = some b → conc φ x = some X → conc φ y = some Y → RunsTo P (Op.equalIn d t X Y) b) {e : TypeId} {sz : Nat} :
    ∀ (n i : Nat) (xs ys X Y : List Value) (b : Bool), eqElems P r e sz n i xs ys = some b → concL φ xs = some X → concL φ ys = some Y →
      RunsTo P (forIn (List.range' i n) ((none : Option Bool), ()) fun i __s => do
          let a ← part e X.toArray (i * sz)
          let b ← part e Y.toArray (i * sz)
          let c ← Op.equalIn d e a b
          if (!c) = true then pure (ForInStep.done (some false, ())) else pure (ForInStep.yield (none, ()))) (if b then (none, ()) else (some false, ()))
  | 0, i, xs, ys, X, Y, b, h, hx, hy => by
    simp only [eqElems, Option.some.injEq] at h; subst h
    intro w; rfl
  | n + 1, i, xs, ys, X, Y, b, h, hx, hy => by
    intro w
    rw [List.range'_succ, List.forIn_cons]
    unfold eqElems at h
    split at h
    · next u v h1 h2 =>
      obtain ⟨U, g1, g2⟩ := partV_ok h1 hx
      obtain ⟨V, g3, g4⟩ := partV_ok h2 hy
      split at h
      · next hb =>
        have e1 := hr _ _ _ _ _ _ hb g1 g3
        rw [run_bind, bind_ok (g2 w), bind_ok (g4 w), bind_ok (e1 w)]
        exact elems_run hr n (i + 1) xs ys X Y b h hx hy w
      · next hb =>
        cases h
        have e1 := hr _ _ _ _ _ _ hb g1 g3
        rw [run_bind, bind_ok (g2 w), bind_ok (g4 w), bind_ok (e1 w)]
        rfl
      · cases h
    · cases h
theorem conc_tok {n : Nat} {x : Value} (h : conc φ (.float .f64 n) = some x) : tok φ.env n = some x := by
  simp only [conc] at h
  split at h
  · next y hy => split at h
                 · cases h; exact hy
                 · cases h
  · cases h
theorem conc_ptr {a : Addr} {x : Value} (h : conc φ (.pointer (some a)) = some x) : a.spot = none ∧ ∃ a', concA φ a = some a' ∧ x = .pointer (some a') := by
  simp only [conc] at h
  split at h
  · cases h
  · next hs =>
    refine ⟨by simpa using hs, ?_⟩
    cases hc : concA φ a with
    | none => rw [hc] at h; cases h
    | some a' => rw [hc] at h; cases h; exact ⟨a', rfl, rfl⟩
theorem conc_slice {a : Addr} {n c : Nat} {x : Value} (h : conc φ (.slice (some a) n c) = some x) : ∃ b a', φ.at_ a.block = some b ∧ concA φ a = some a' ∧ x = .slice (some a') n (if c < BIG then c else c - BIG + b.exc) := by
  simp only [conc] at h
  split at h
  · next b a' h1 h2 => cases h; exact ⟨b, a', h1, h2, rfl⟩
  · cases h
theorem conc_map {r : Nat} {x : Value} (h : conc φ (.map (some r)) = some x) : ∃ b, φ.at_ r = some b ∧ x = .map (some b.blk) := by
  simp only [conc] at h
  cases hc : φ.at_ r with
  | none => rw [hc] at h; cases h
  | some b => rw [hc] at h; cases h; exact ⟨b, rfl, rfl⟩
theorem conc_iface {t : TypeId} {v x : Value} (h : conc φ (.iface t v) = some x) : ∃ u, conc φ v = some u ∧ x = .iface t u := by
  simp only [conc] at h
  cases hc : conc φ v with
  | none => rw [hc] at h; cases h
  | some b => rw [hc] at h; cases h; exact ⟨b, rfl, rfl⟩
theorem conc_func {fn : Fn} {a b : Array Value} {x : Value} (h : conc φ (.func fn a b) = some x) : ∃ f A B, fn = .func f ∧ concL φ a.toList = some A ∧ concL φ b.toList = some B ∧ x = .func (.func f) A.toArray B.toArray := by
  obtain ⟨a⟩ := a
  obtain ⟨b⟩ := b
  cases fn <;> simp only [conc] at h <;> try cases h
  split at h
  · next f A B h1 h2 => cases h; exact ⟨_, A, B, rfl, h1, h2, rfl⟩
  · cases h
theorem bytes_self (c : ByteArray) : (c == c) = true := by
  obtain ⟨d⟩ := c
  first | (exact beq_self_eq_true _) | (show (d == d) = true; exact beq_self_eq_true _)
theorem eqV_ok : ∀ (d : Nat) (t : TypeId) (x y : Value) (b : Bool) (X Y : Value), eqV P d t x y = some b → conc φ x = some X → conc φ y = some Y → RunsTo P (Op.equalIn d t X Y) b
  | 0, t, x, y, b, X, Y, h, hx, hy => by simp [eqV] at h
  | d + 1, t, x, y, b, X, Y, h, hx, hy => by
    have IH := eqV_ok d
    intro w
    unfold eqV at h
    unfold Op.equalIn
    split at h
    all_goals (try (rename_i hu; rw [bind_ok (underlying_run hu)]))
    all_goals try cases h
    · simp only [conc, Option.some.injEq] at hx hy; subst hx hy; rfl
    · simp only [conc, Option.some.injEq] at hx hy; subst hx hy
      split at h
      · next hk => cases h; simp only [hk, if_true]; rfl
      · cases h
    · simp only [conc, Option.some.injEq] at hx hy; subst hx hy; rfl
    · simp only [conc, Option.some.injEq] at hx; subst hx
      rename_i bb
      cases bb with
      | none => simp only [conc, Option.some.injEq] at hy; subst hy; rfl
      | some a => obtain ⟨_, a', _, rfl⟩ := conc_ptr hy; rfl
    · simp only [conc, Option.some.injEq] at hy; subst hy
      obtain ⟨_, a', _, rfl⟩ := conc_ptr hx; rfl
    · simp only [conc, Option.some.injEq] at hx hy; subst hx hy; rfl
    · simp only [conc, Option.some.injEq] at hx; subst hx
      obtain ⟨u, _, rfl⟩ := conc_iface hy; rfl
    · simp only [conc, Option.some.injEq] at hy; subst hy
      obtain ⟨u, _, rfl⟩ := conc_iface hx; rfl
    · simp only [conc, Option.some.injEq] at hx; subst hx
      rename_i bb _ _
      cases bb with
      | none => simp only [conc, Option.some.injEq] at hy; subst hy; rfl
      | some a => obtain ⟨b, a', _, _, rfl⟩ := conc_slice hy; rfl
    · simp only [conc, Option.some.injEq] at hy; subst hy
      obtain ⟨b, a', _, _, rfl⟩ := conc_slice hx; rfl
    · simp only [conc, Option.some.injEq] at hx; subst hx
      rename_i bb
      cases bb with
      | none => simp only [conc, Option.some.injEq] at hy; subst hy; rfl
      | some a => obtain ⟨b, _, rfl⟩ := conc_map hy; rfl
    · simp only [conc, Option.some.injEq] at hy; subst hy
      obtain ⟨b, _, rfl⟩ := conc_map hx; rfl
    · simp only [conc, Option.some.injEq] at hx hy; subst hx hy; rfl
    · simp only [conc, Option.some.injEq] at hx; subst hx
      obtain ⟨f, A, B, _, _, _, rfl⟩ := conc_func hy; rfl
    · simp only [conc, Option.some.injEq] at hy; subst hy
      obtain ⟨f, A, B, _, _, _, rfl⟩ := conc_func hx; rfl
    · split at h
      · cases h
      · next hs =>
        obtain ⟨xs, hX, rfl⟩ := conc_agg hx
        obtain ⟨ys, hY, rfl⟩ := conc_agg hy
        simp only [program]
        rw [run_bind]
        simp only [Sem.run, hs, Bool.false_eq_true, if_false]
        have hh := fields_run (d := d) (fun t x y b X Y h hx hy => IH t x y b X Y h hx hy) _ _ _ _ _ _ h hX hY w
        rw [Array.forIn_toList] at hh
        rw [bind_ok hh]
        cases b <;> rfl
    · split at h
      · next sz hsz =>
        obtain ⟨xs, hX, rfl⟩ := conc_agg hx
        obtain ⟨ys, hY, rfl⟩ := conc_agg hy
        simp only []
        rw [bind_ok (sizeOf_run hsz)]
        have hh := elems_run (d := d) (fun t x y b X Y h hx hy => IH t x y b X Y h hx hy) _ _ _ _ _ _ _ h hX hY w
        rw [Std.Legacy.Range.forIn_eq_forIn_range']
        simp only [Std.Legacy.Range.size, Nat.sub_zero, Nat.add_sub_cancel, Nat.div_one]
        rw [bind_ok hh]
        cases b <;> rfl
      · cases h
    · obtain ⟨m, rfl, e⟩ := tokCmp_ok h (conc_tok hx) t
      simp only [conc, Option.some.injEq] at hy; subst hy
      rw [cmp_eql] at e
      cases e; rfl
    · obtain ⟨m, rfl, e⟩ := tokFlip_ok (op := .eql) h (conc_tok hy) t
      simp only [conc, Option.some.injEq] at hx; subst hx
      rw [cmp_eql] at e
      cases e; rfl
    · split at h
      · next hc =>
        cases h
        obtain ⟨rfl, hk⟩ := hc
        obtain ⟨k, hk⟩ := Option.isSome_iff_exists.1 hk
        have hx' := conc_tok hx
        obtain ⟨c, rfl⟩ := tok_int hk hx'
        rw [hx] at hy; cases hy
        simp
      · cases h
    · split at h
      · next hc =>
        cases h
        obtain ⟨rfl, hk⟩ := hc
        obtain ⟨c, _, rfl, _⟩ := tok_str hk (conc_tok hx)
        rw [hx] at hy; cases hy
        have hc : (c == c) = true := bytes_self c
        simp [hc]
      · cases h
end
end Ev
end Go.Proofs.YtifoekadjnlhcaaGreatDoor
