/- Rows numbered one by one; what Split hands back. -/
import Derived.Test.YtmbmibinnjfbdaaGreatRD
namespace Go.Proofs.YtmbmibinnjfbdaaGreat
open Go.ChangeShapes Go.WideShapes Go.ChangeAt Go.RowKit
set_option linter.unusedVariables false
set_option linter.unusedSimpArgs false
/-- The first k lists numbered. -/
def nallL (k : Nat) (xs : List (List Rec)) : List (List Rec) := xs.mapIdx fun i x => if i < k then numF x else x
theorem nallL_len (k : Nat) (xs : List (List Rec)) : (nallL k xs).length = xs.length := by simp [nallL]
theorem nallL_zero (xs : List (List Rec)) : nallL 0 xs = xs := by
  apply List.ext_getElem?
  intro i
  simp [nallL]
theorem nallL_all (xs : List (List Rec)) (k : Nat) (h : xs.length ≤ k) : nallL k xs = xs.map numF := by
  apply List.ext_getElem?
  intro i
  simp only [nallL, List.getElem?_mapIdx, List.getElem?_map]
  by_cases hi : i < xs.length
  · have : i < k := by omega
    simp [this]
  · rw [List.getElem?_eq_none (by omega)]; rfl
theorem nallL_get (k : Nat) (xs : List (List Rec)) (x : List Rec) (hx : xs[k]? = some x) : (nallL k xs)[k]? = some x := by
  simp [nallL, hx]
theorem nallL_step (k : Nat) (xs : List (List Rec)) (x : List Rec) (hx : xs[k]? = some x) : nallL (k + 1) xs = (nallL k xs).set k (numF x) := by
  have hk : k < xs.length := (List.getElem?_eq_some_iff.1 hx).1
  apply List.ext_getElem?
  intro i
  simp only [nallL, List.getElem?_mapIdx, List.getElem?_set, List.length_mapIdx]
  by_cases hi : k = i
  · subst hi
    rw [if_pos rfl, if_pos hk, hx]
    simp
  · rw [if_neg hi]
    by_cases hj : i < k
    · simp [hj, Nat.lt_succ_of_lt hj]
    · have : ¬ i < k + 1 := by omega
      simp [hj, this]
/-- One of the rows is replaced by one in a piece above. -/
theorem Rows.put {B : Nat} {S : List Nat} {m e : Array Obj} {VS : List Value} {xs : List (List Rec)} (h : Rows B S m VS xs) (p : Nat) (v v' : Value) (x' : List Rec) (hv : VS[p]? = some v)
    (hr : rowIn B (m.size :: S) e 30 6 v' x'.length (x'.flatMap recCells)) : Rows B S (m ++ e) (VS.set p v') (xs.set p x') := by
  have hlt : p < VS.length := (List.getElem?_eq_some_iff.1 hv).1
  have hlt2 : p < xs.length := by rw [← h.len]; exact hlt
  have hnew : ∀ b, v'.ownBlock = some b → at' B S m.size ≤ b := by
    intro b hb
    rcases hr.2 with ⟨rfl, _⟩ | ⟨j, cap, cur, rfl, _⟩
    · simp [Value.ownBlock] at hb
    · simp only [Value.ownBlock, Option.some.injEq] at hb; unfold at' at hb ⊢; simp only [sz] at hb; omega
  have hold : ∀ (q : Nat) u b, VS[q]? = some u → u.ownBlock = some b → b < at' B S m.size := by
    intro q u b hu hb
    obtain ⟨z, hz⟩ : ∃ z, xs[q]? = some z := ⟨_, List.getElem?_eq_getElem (by rw [← h.len]; exact (List.getElem?_eq_some_iff.1 hu).1)⟩
    rcases (h.row q u z hu hz).2 with ⟨rfl, _⟩ | ⟨j, cap, cur, rfl, hj, _⟩
    · simp [Value.ownBlock] at hb
    · simp only [Value.ownBlock, Option.some.injEq] at hb; unfold at' at hb ⊢; omega
  refine ⟨by simp [h.len], fun q u z hu hz => ?_, fun q q' u u' b hne hu hu' hb => ?_⟩
  · rw [List.getElem?_set] at hu hz
    by_cases hq : p = q
    · subst hq
      rw [if_pos rfl, if_pos hlt] at hu
      rw [if_pos rfl, if_pos hlt2] at hz
      cases hu; cases hz
      exact rowIn_under hr
    · rw [if_neg hq] at hu hz
      exact rowIn_more (h.row q u z hu hz) e
  · rw [List.getElem?_set] at hu hu'
    by_cases hq : p = q
    · subst hq
      rw [if_pos rfl, if_pos hlt] at hu
      rw [if_neg hne] at hu'
      cases hu
      intro e'
      have h1 := hnew b hb
      have h2 := hold q' u' b hu' e'
      omega
    · rw [if_neg hq] at hu
      by_cases hq' : p = q'
      · subst hq'
        rw [if_pos rfl, if_pos hlt] at hu'
        cases hu'
        intro e'
        have h1 := hnew b e'
        have h2 := hold q u b hu hb
        omega
      · rw [if_neg hq'] at hu'
        exact h.apart q q' u u' b hne hu hu' hb
theorem Rows.rd {w : World} {L : List (Array Obj)} {m : Array Obj} {VS : List Value} {xs : List (List Rec)} (h : Rows w.heap.size (shape L) m VS xs) (p : Nat) (v : Value) (x : List Rec) (hv : VS[p]? = some v) (hx : xs[p]? = some x) :
    ∃ a c, v = .slice a x.length c ∧ ∀ n, RecsAt (wd w (m :: L) n) a x := by
  have hr := h.row p v x hv hx
  obtain ⟨a, c, rfl, _⟩ := row_val hr
  exact ⟨a, c, rfl, fun n => RowAt.of_rd (rdrow_of_row hr)⟩
/-- Lists of records that can be read. -/
structure ListsAt (w : World) (ao : Option Addr) (xs : List (List Rec)) : Prop where
  out : ∃ b off, ao = some ⟨b, off, none⟩ ∧ b < w.heap.size ∧ ∀ (p : Nat) x, xs[p]? = some x → ∃ a c, w.cell? ⟨b, off + p, none⟩ = some (.slice a x.length c) ∧ RecsAt w a x
theorem ListsAt.more {w w' : World} {ao : Option Addr} {xs : List (List Rec)} (h : ListsAt w ao xs) (hm : More w w') : ListsAt w' ao xs := by
  obtain ⟨b, off, ha, hb, hc⟩ := h.out
  have bel := hm.below
  exact ⟨b, off, ha, Nat.lt_of_lt_of_le hb bel.size, fun p x hx => by
    obtain ⟨a, c, h1, h2⟩ := hc p x hx
    exact ⟨a, c, by rw [bel.cell hb]; exact h1, h2.more hm⟩⟩
/-- What Split hands back. -/
structure SplitRet (w w' : World) (e : Ending) (P : Nat) (t : Int) (xs : List (List Rec)) : Prop where
  out : ∃ ao, e = .returned (.tuple #[.slice ao P P, .int .i64 t]) ∧ ListsAt w' ao xs ∧ More w w'
theorem lists_of_rows {w : World} {m R : Array Obj} {VS : List Value} {xs : List (List Rec)} {n : Nat} (h : Rows w.heap.size [1, R.size] m VS xs) :
    ListsAt (wd w [m, #[.cells VS.toArray 22], R] n) (some ⟨sz w.heap.size [R.size], 0, none⟩) xs := by
  refine ⟨_, _, rfl, by rw [wd_size]; simp only [shape, sz]; simp; omega, fun p x hx => ?_⟩
  obtain ⟨v, hv⟩ : ∃ v, VS[p]? = some v := ⟨_, List.getElem?_eq_getElem (by rw [h.len]; exact (List.getElem?_eq_some_iff.1 hx).1)⟩
  obtain ⟨a, c, rfl, hr⟩ := Rows.rd (L := [#[.cells VS.toArray 22], R]) h p v x hv hx
  refine ⟨a, c, ?_, hr n⟩
  rw [wd_cell_past w _ n w.heap.size _ [R.size] m rfl (by simp [shape, inn]), wd_cell w _ n w.heap.size _ [R.size] _ _ (0, 0) rfl rfl]
  simpa using hv
end Go.Proofs.YtmbmibinnjfbdaaGreat
