/- Law 37, plainly: what Split does with records. -/
import Derived.Test.YtmbmibinnjfbdaaGreatRF
namespace Go.Proofs.YtmbmibinnjfbdaaGreat
set_option linter.unusedVariables false
set_option linter.unusedSimpArgs false
/-- How many without a key. -/
def cntN (l : List Rec) : Nat := (l.filter fun r => !r.keyed).length
theorem cntN_snoc (l : List Rec) (r : Rec) : cntN (l ++ [r]) = cntN l + (if r.keyed then 0 else 1) := by
  unfold cntN
  rw [List.filter_append, List.length_append]
  cases h : r.keyed <;> simp [h]
def ddF (P t0 a : Int) : Int := if t0 ≤ a then a - t0 else a + P - t0
structure SpI (P t0 : Int) (l : List Rec) (st : Int × List (List Rec)) : Prop where
  len : st.2.length = P.toNat
  turn : 0 ≤ st.1 ∧ st.1 < P
  keyed : ∀ (p : Nat) x, st.2[p]? = some x → ∀ r ∈ x, r.keyed = true → ofF r.key P = p
  sub : ∀ (p : Nat) x, st.2[p]? = some x → x.Sublist l
  sum : (st.2.map List.length).sum = l.length
  cnt : ∃ c : Nat, ∀ (p : Nat) x, st.2[p]? = some x → cntN x = c + (if ddF P t0 p < ddF P t0 st.1 then 1 else 0)
theorem sum_modify (xs : List (List Rec)) (q : Nat) (r : Rec) (h : q < xs.length) : ((xs.modify q fun x => x ++ [r]).map List.length).sum = (xs.map List.length).sum + 1 := by
  induction xs generalizing q with
  | nil => simp at h
  | cons x xs ih =>
    cases q with
    | zero => simp [List.modify_zero_cons]; omega
    | succ q => simp only [List.modify_succ_cons, List.map_cons, List.sum_cons]; rw [ih q (by simpa using h)]; omega
theorem SpI.step {P t0 : Int} {l : List Rec} {st : Int × List (List Rec)} (hP : 1 ≤ P) (hP8 : P ≤ 8) (h0 : 0 ≤ t0 ∧ t0 < P) (h : SpI P t0 l st) (r : Rec) :
    SpI P t0 (l ++ [r]) ((goF P st.1 r).2, st.2.modify (goF P st.1 r).1.toNat fun x => x ++ [r]) := by
  obtain ⟨t, xs⟩ := st
  obtain ⟨hlen, hturn, hkey, hsub, hsum, c, hcnt⟩ := h
  dsimp only at hlen hturn hkey hsub hsum hcnt ⊢
  obtain ⟨g0, g1, g2, g3⟩ := goF_in P t r hP hP8 hturn.1 hturn.2
  have hget : ∀ (p : Nat) x, (xs.modify (goF P t r).1.toNat fun x => x ++ [r])[p]? = some x → (((p : Int) = (goF P t r).1 ∧ ∃ y, xs[p]? = some y ∧ x = y ++ [r]) ∨ ((p : Int) ≠ (goF P t r).1 ∧ xs[p]? = some x)) := by
    intro p x hx
    rw [List.getElem?_modify] at hx
    obtain ⟨y, hy, hxy⟩ := Option.map_eq_some_iff.1 hx
    by_cases hp : (goF P t r).1.toNat = p
    · left
      rw [if_pos hp] at hxy
      exact ⟨by omega, y, hy, hxy.symm⟩
    · right
      rw [if_neg hp] at hxy
      exact ⟨by omega, by rw [hy, hxy]⟩
  refine ⟨by rw [List.length_modify]; exact hlen, ⟨g2, g3⟩, ?_, ?_, ?_, ?_⟩
  · intro p x hx s hs hk
    rcases hget p x hx with ⟨hp, y, hy, rfl⟩ | ⟨_, hy⟩
    · rcases List.mem_append.1 hs with hs | hs
      · exact hkey p y hy s hs hk
      · obtain rfl := List.mem_singleton.1 hs
        rw [hp]
        unfold goF
        rw [if_pos hk]
    · exact hkey p x hy s hs hk
  · intro p x hx
    rcases hget p x hx with ⟨hp, y, hy, rfl⟩ | ⟨_, hy⟩
    · exact (hsub p y hy).append (List.Sublist.refl _)
    · exact (hsub p x hy).trans (List.sublist_append_left _ _)
  · rw [sum_modify _ _ _ (by rw [hlen]; omega), hsum]; simp
  · cases hk : r.keyed with
    | true =>
      have e1 : (goF P t r).2 = t := by unfold goF; rw [if_pos hk]
      refine ⟨c, fun p x hx => ?_⟩
      rw [e1]
      rcases hget p x hx with ⟨hp, y, hy, rfl⟩ | ⟨_, hy⟩
      · rw [cntN_snoc, hk, hcnt p y hy]; simp
      · exact hcnt p x hy
    | false =>
      have e1 : (goF P t r).1 = t := by unfold goF; rw [if_neg (by simp [hk])]
      have e2 : (goF P t r).2 = if t + 1 = P then 0 else t + 1 := by
        unfold goF
        rw [if_neg (by simp [hk])]
        show (t + 1) % P = _
        split
        · next h => rw [h]; exact Int.emod_self
        · exact Int.emod_eq_of_lt (by omega) (by omega)
      have hlt : ∀ (p : Nat) x, xs[p]? = some x → (p : Int) < P := fun p x hx => by
        have := (List.getElem?_eq_some_iff.1 hx).1
        omega
      by_cases hlast : ddF P t0 t + 1 = P
      · refine ⟨c + 1, fun p x hx => ?_⟩
        have hz : ddF P t0 (goF P t r).2 = 0 := by rw [e2]; unfold ddF at hlast ⊢; split at hlast <;> split <;> split <;> omega
        rw [hz]
        rcases hget p x hx with ⟨hp, y, hy, rfl⟩ | ⟨hp, hy⟩
        all_goals rw [e1] at hp
        · rw [cntN_snoc, hk, hcnt p y hy]
          have := hlt p y hy
          have a1 : ¬ ddF P t0 p < ddF P t0 t := by rw [hp]; omega
          have a2 : ¬ ddF P t0 p < 0 := by unfold ddF; split <;> omega
          rw [if_neg a1, if_neg a2]; simp
        · rw [hcnt p x hy]
          have := hlt p x hy
          have a1 : ddF P t0 p < ddF P t0 t := by unfold ddF at hlast ⊢; split <;> split at hlast <;> split <;> omega
          have a2 : ¬ ddF P t0 p < 0 := by unfold ddF; split <;> omega
          rw [if_pos a1, if_neg a2]
      · refine ⟨c, fun p x hx => ?_⟩
        have hz : ddF P t0 (goF P t r).2 = ddF P t0 t + 1 := by rw [e2]; unfold ddF at hlast ⊢; split at hlast <;> split <;> split <;> omega
        rw [hz]
        rcases hget p x hx with ⟨hp, y, hy, rfl⟩ | ⟨hp, hy⟩
        all_goals rw [e1] at hp
        · rw [cntN_snoc, hk, hcnt p y hy]
          have a1 : ¬ ddF P t0 p < ddF P t0 t := by rw [hp]; omega
          have a2 : ddF P t0 p < ddF P t0 t + 1 := by rw [hp]; omega
          rw [if_neg a1, if_pos a2]; simp
        · rw [hcnt p x hy]
          have := hlt p x hy
          have a3 : ddF P t0 p ≠ ddF P t0 t := by unfold ddF; split <;> split <;> omega
          by_cases a1 : ddF P t0 p < ddF P t0 t
          · rw [if_pos a1, if_pos (by omega)]
          · rw [if_neg a1, if_neg (by omega)]
theorem splitF_inv (P t0 : Int) (hP : 1 ≤ P) (hP8 : P ≤ 8) (h0 : 0 ≤ t0 ∧ t0 < P) (l : List Rec) : SpI P t0 l (splitF P l (t0, List.replicate P.toNat [])) := by
  have key : ∀ k, k ≤ l.length → SpI P t0 (l.take k) (splitF P (l.take k) (t0, List.replicate P.toNat [])) := by
    intro k
    induction k with
    | zero =>
      intro _
      rw [List.take_zero]
      refine ⟨by simp [splitF], h0, ?_, ?_, ?_, 0, ?_⟩
      · intro p x hx r hr
        rw [splitF, List.getElem?_replicate] at hx
        split at hx
        · cases hx; cases hr
        · cases hx
      · intro p x hx
        rw [splitF, List.getElem?_replicate] at hx
        split at hx
        · cases hx; exact List.Sublist.refl _
        · cases hx
      · rw [splitF]; simp
      · intro p x hx
        rw [splitF, List.getElem?_replicate] at hx
        split at hx
        · cases hx
          rw [splitF, if_neg (by unfold ddF; split <;> split <;> omega)]
          rfl
        · cases hx
    | succ k ih =>
      intro hk
      obtain ⟨r, hr⟩ : ∃ r, l[k]? = some r := ⟨_, List.getElem?_eq_getElem (by omega)⟩
      rw [List.take_add_one, hr]
      show SpI P t0 (l.take k ++ [r]) (splitF P (l.take k ++ [r]) _)
      rw [splitF_snoc]
      exact (ih (by omega)).step hP hP8 h0 r
  have := key l.length (Nat.le_refl _)
  rwa [List.take_length] at this
end Go.Proofs.YtmbmibinnjfbdaaGreat
