/- THE ENGINE, 3: loads and stores of cells in a world. -/
import Derived.Test.YtepdkcikkemieaaGreatEvB
noncomputable section
namespace Go.Proofs.YtepdkcikkemieaaGreat
open Go.RowKit
set_option linter.unusedVariables false
set_option linter.unusedSimpArgs false
namespace Ev

theorem run_bind {α β : Type} (P : Program) (s : Sem α) (f : α → Sem β) : ∀ w, (s >>= f).run P w = match s.run P w with | .ok a w' => (f a).run P w' | .halt h w' => .halt h w' := by
  show ∀ w, (Sem.bind s f).run P w = _
  induction s with
  | pure a => intro w; rfl
  | load m a k ih =>
    intro w
    simp only [Sem.bind, Sem.run]
    cases w.cell? a with
    | some v => exact ih v w
    | none =>
      simp only []
      cases w.farLoad P a (m == .atomic) with
      | ok r => exact ih _ w
      | error e => rfl
  | store m a v k ih =>
    intro w
    cases v <;> simp only [Sem.bind, Sem.run] <;> (try rfl)
    all_goals
      cases w.cell? a with
      | some u =>
        simp only []
        split
        · rfl
        · exact ih _
      | none =>
        simp only []
        split
        · exact ih _
        · rfl
  | new o k ih => intro w; simp only [Sem.bind, Sem.run]; exact ih _ _
  | shape r k ih => intro w; simp only [Sem.bind, Sem.run]; exact ih _ _
  | freeze a n k ih => intro w; simp only [Sem.bind, Sem.run]; exact ih _
  | frozen a k ih => intro w; simp only [Sem.bind, Sem.run]; exact ih _ _
  | getObj r k ih =>
    intro w
    simp only [Sem.bind, Sem.run]
    cases hr : w.heap[r]? with
    | none => simp only []
    | some o => cases o <;> simp only [] <;> first | rfl | exact ih _ _
  | setObj r o k ih =>
    intro w
    simp only [Sem.bind, Sem.run]
    cases hr : w.heap[r]? with
    | none => simp only []
    | some o => cases o <;> simp only [] <;> first | rfl | exact ih _
  | choose q k ih => intro w; simp only [Sem.bind, Sem.run]; split <;> exact ih _ _
  | sys c k ih => intro w; simp only [Sem.bind, Sem.run]; exact ih _ _
  | program k ih => intro w; simp only [Sem.bind, Sem.run]; exact ih _ _
  | mark m k ih => intro w; simp only [Sem.bind, Sem.run]; exact ih _
  | halt h => intro w; rfl
theorem run_pure {α : Type} (P : Program) (a : α) (w : World) : (pure a : Sem α).run P w = .ok a w := rfl
theorem bind_ok {α β : Type} {P : Program} {s : Sem α} {f : α → Sem β} {w w' : World} {a : α} (h : s.run P w = .ok a w') : (s >>= f).run P w = (f a).run P w' := by rw [run_bind, h]
theorem add_off (b o i : Nat) : (⟨b, o, none⟩ : Addr).add i = ⟨b, o + i, none⟩ := by
  unfold Addr.add
  split
  · next h => rw [h]; rfl
  · rfl
theorem cell_of {w : World} {b : Nat} {cs : Array Value} {el : TypeId} {fr : Nat × Nat} (h : w.heap[b]? = some (.cells cs el fr)) (i : Nat) : w.cell? ⟨b, i, none⟩ = cs[i]? := by
  simp [World.cell?, h]
theorem load_run {P : Program} {w : World} {a : Addr} {v : Value} (h : w.cell? a = some v) : (load a).run P w = .ok v w := by
  unfold load
  simp only [Sem.run, h]
theorem loadFrom_run {P : Program} {w : World} {b o : Nat} {cs : Array Value} {el : TypeId} {fr : Nat × Nat} (h : w.heap[b]? = some (.cells cs el fr)) : ∀ (n i : Nat) (acc : Array Value), o + i + n ≤ cs.size →
    (loadCellsFrom ⟨b, o, none⟩ i n acc).run P w = .ok (acc ++ cs.extract (o + i) (o + i + n)) w
  | 0, i, acc, _ => by
    unfold loadCellsFrom
    rw [run_pure]; congr 1
    apply Array.ext_getElem?; intro j; simp only [Array.getElem?_append]
    split
    · rfl
    · next h => rw [Array.getElem?_eq_none (by omega), Array.getElem?_eq_none (by simp; omega)]
  | n + 1, i, acc, hn => by
    unfold loadCellsFrom
    have hc : w.cell? ((⟨b, o, none⟩ : Addr).add i) = some cs[o + i] := by rw [add_off, cell_of h, Array.getElem?_eq_getElem (by omega)]
    rw [bind_ok (load_run hc), loadFrom_run h n (i + 1) _ (by omega)]
    congr 1
    apply Array.ext_getElem?
    intro j
    simp only [Array.getElem?_append, Array.getElem?_push, Array.size_push, Array.getElem?_extract]
    by_cases h1 : j < acc.size
    · simp [h1, show j < acc.size + 1 by omega, show j ≠ acc.size by omega]
    · by_cases h2 : j = acc.size
      · subst h2; simp [show o + i < o + i + (n + 1) by omega, show min (o + i + (n + 1)) cs.size - (o + i) ≠ 0 by omega]
        omega
      · have h3 : ¬ j < acc.size + 1 := by omega
        simp only [h1, h2, h3, if_false]
        by_cases h4 : j - (acc.size + 1) < min (o + (i + 1) + n) cs.size - (o + (i + 1))
        · rw [if_pos h4, if_pos (by omega)]; congr 1; omega
        · rw [if_neg h4, if_neg (by omega)]
theorem loadCells_run {P : Program} {w : World} {b o n : Nat} {cs : Array Value} {el : TypeId} {fr : Nat × Nat} (h : w.heap[b]? = some (.cells cs el fr)) (hn : o + n ≤ cs.size) :
    (loadCells ⟨b, o, none⟩ n).run P w = .ok (cs.extract o (o + n)) w := by
  unfold loadCells
  rw [loadFrom_run h n 0 #[] (by omega)]
  simp
/-- Cells laid one behind the other. -/
def putL (c : Array Value) : Nat → List Value → Array Value
  | _, [] => c
  | k, x :: xs => putL (c.setIfInBounds k x) (k + 1) xs
theorem putL_size : ∀ (xs : List Value) (c : Array Value) (k : Nat), (putL c k xs).size = c.size
  | [], c, k => rfl
  | x :: xs, c, k => by rw [putL, putL_size xs]; simp
theorem putL_get : ∀ (xs : List Value) (c : Array Value) (k i : Nat), k + xs.length ≤ c.size → (putL c k xs)[i]? = if k ≤ i ∧ i < k + xs.length then xs[i - k]? else c[i]?
  | [], c, k, i, _ => by rw [putL, if_neg (by simp)]
  | x :: xs, c, k, i, h => by
    simp only [List.length_cons] at h ⊢
    rw [putL, putL_get xs _ _ _ (by simp; omega), Array.getElem?_setIfInBounds]
    by_cases h1 : i = k
    · subst h1
      rw [if_neg (by omega), if_pos rfl, if_pos (by omega), if_pos (by omega)]; simp
    · by_cases h2 : k + 1 ≤ i ∧ i < k + 1 + xs.length
      · rw [if_pos h2, if_pos (by omega)]
        obtain ⟨j, rfl⟩ : ∃ j, i = k + 1 + j := ⟨i - (k + 1), by omega⟩
        rw [show k + 1 + j - (k + 1) = j by omega, show k + 1 + j - k = j + 1 by omega, List.getElem?_cons_succ]
      · rw [if_neg h2, if_neg (by omega), if_neg (by omega)]
/-- The world with these cells laid. -/
def putO (k : Nat) (xs : List Value) : Obj → Obj
  | .cells c el fr => .cells (putL c k xs) el fr
  | o => o
def putW (w : World) (b : Nat) (k : Nat) (xs : List Value) : World := { w with heap := w.heap.modify b (putO k xs) }
theorem putW_nil (w : World) (b k : Nat) : putW w b k [] = w := by
  have : w.heap.modify b (putO k []) = w.heap := by
    apply Array.ext_getElem?
    intro i
    rw [Array.getElem?_modify]
    split
    · cases h : w.heap[i]? with
      | none => rfl
      | some o => cases o <;> rfl
    · rfl
  unfold putW; rw [this]
theorem modify_modify {α : Type} (a : Array α) (b : Nat) (f g : α → α) : (a.modify b f).modify b g = a.modify b (g ∘ f) := by
  apply Array.ext_getElem?
  intro i
  simp only [Array.getElem?_modify]
  split
  · cases a[i]? <;> rfl
  · rfl
theorem putW_cons (w : World) (b k : Nat) (x : Value) (xs : List Value) : putW (w.setCell ⟨b, k, none⟩ x) b (k + 1) xs = putW w b k (x :: xs) := by
  unfold putW World.setCell
  simp only [modify_modify]
  congr 2
  funext o
  cases o <;> simp [putL, putO]
theorem store_run {P : Program} {w : World} {a : Addr} {v u : Value} (hv : oneCell v = true) (h : w.cell? a = some u) (hf : w.frozen? a = false) : (store a v).run P w = .ok () (w.setCell a v) := by
  unfold store
  cases v <;> simp [oneCell] at hv <;> simp [Sem.run, h, hf]
theorem storeCells_run {P : Program} {b o : Nat} : ∀ (xs : List Value) (i : Nat) (w : World) (cs : Array Value) (el : TypeId) (fr : Nat × Nat), w.heap[b]? = some (.cells cs el fr) → (fr.2 ≤ fr.1 ∨ cs.size ≤ fr.1) →
    (∀ x ∈ xs, oneCell x = true) → o + i + xs.length ≤ cs.size → (storeCells ⟨b, o, none⟩ xs i).run P w = .ok () (putW w b (o + i) xs)
  | [], i, w, cs, el, fr, h, hf, hx, hn => by unfold storeCells; rw [putW_nil]; rfl
  | x :: xs, i, w, cs, el, fr, h, hf, hx, hn => by
    simp only [List.length_cons] at hn
    unfold storeCells
    have hc : w.cell? ((⟨b, o, none⟩ : Addr).add i) = some cs[o + i] := by rw [add_off, cell_of h, Array.getElem?_eq_getElem (by omega)]
    have hz : w.frozen? ((⟨b, o, none⟩ : Addr).add i) = false := by
      rw [add_off]; simp only [World.frozen?, h]
      rcases hf with hf | hf <;> simp <;> omega
    rw [bind_ok (store_run (hx x (by simp)) hc hz), add_off]
    have h' : (w.setCell ⟨b, o + i, none⟩ x).heap[b]? = some (.cells (cs.setIfInBounds (o + i) x) el fr) := by
      simp [World.setCell, Array.getElem?_modify, h]
    rw [storeCells_run xs (i + 1) _ _ _ _ h' (by simpa using hf) (fun y hy => hx y (by simp [hy])) (by simp; omega), show o + (i + 1) = o + i + 1 by omega, putW_cons]
theorem putW_at {w : World} {b k : Nat} {xs : List Value} {cs : Array Value} {el : TypeId} {fr : Nat × Nat} (h : w.heap[b]? = some (.cells cs el fr)) : (putW w b k xs).heap[b]? = some (.cells (putL cs k xs) el fr) := by
  simp [putW, Array.getElem?_modify, h, putO]
theorem putW_ne {w : World} {b k i : Nat} {xs : List Value} (h : i ≠ b) : (putW w b k xs).heap[i]? = w.heap[i]? := by
  simp [putW, Array.getElem?_modify]; intro e; exact absurd e.symm h
theorem putW_size (w : World) (b k : Nat) (xs : List Value) : (putW w b k xs).heap.size = w.heap.size := by simp [putW]
theorem oneCell_conc {φ : Phi} {v x : Value} (hv : oneCell v = true) (h : conc φ v = some x) : oneCell x = true := by
  cases v <;> simp [oneCell] at hv
  case pointer a => cases a with
    | none => simp [conc] at h; subst h; rfl
    | some a =>
      simp only [conc] at h
      split at h
      · cases h
      · cases ha : concA φ a with
        | none => rw [ha] at h; cases h
        | some y => rw [ha] at h; cases h; rfl
  case slice a n c => cases a with
    | none => simp [conc] at h; subst h; rfl
    | some a =>
      simp only [conc] at h
      split at h
      · cases h; rfl
      · cases h
  case map r => cases r with
    | none => simp [conc] at h; subst h; rfl
    | some r =>
      simp only [conc] at h
      cases ha : φ.at_ r with
      | none => rw [ha] at h; cases h
      | some y => rw [ha] at h; cases h; rfl
  case chan r => cases r with
    | none => simp [conc] at h; subst h; rfl
    | some r => simp [conc] at h
  case func fn a b =>
    obtain ⟨a⟩ := a; obtain ⟨b⟩ := b
    cases fn <;> simp only [conc] at h <;> try cases h
    split at h
    · cases h; rfl
    · cases h
  case iface t v =>
    simp only [conc] at h
    cases ha : conc φ v with
    | none => rw [ha] at h; cases h
    | some y => rw [ha] at h; cases h; rfl
  case float k n =>
    cases k with
    | f64 =>
      simp only [conc] at h
      split at h
      · split at h
        · next hx => cases h; exact hx
        · cases h
      · cases h
    | f32 =>
      simp only [conc] at h
      cases hb : φ.at_ n with
      | none => rw [hb] at h; cases h
      | some b => rw [hb] at h; cases h; rfl
  all_goals (simp [conc] at h; try (subst h; rfl))
end Ev
end Go.Proofs.YtepdkcikkemieaaGreat
