/- Law 37, plainly: records split in two goes. -/
import Derived.Test.YtmbmibinnjfbdaaGreatRG
namespace Go.Proofs.YtmbmibinnjfbdaaGreat
set_option linter.unusedVariables false
set_option linter.unusedSimpArgs false
theorem splitF_append (P : Int) : ∀ (l1 l2 : List Rec) (s : Int × List (List Rec)), splitF P (l1 ++ l2) s = splitF P l2 (splitF P l1 s)
  | [], l2, s => rfl
  | x :: l1, l2, s => splitF_append P l1 l2 _
def catL (A B : List (List Rec)) : List (List Rec) := List.zipWith (fun a b => a ++ b) A B
theorem catL_get (A B : List (List Rec)) (p : Nat) (a b : List Rec) (ha : A[p]? = some a) (hb : B[p]? = some b) : (catL A B)[p]? = some (a ++ b) := by
  unfold catL
  rw [List.getElem?_zipWith, ha, hb]
theorem catL_modify (A B : List (List Rec)) (q : Nat) (r : Rec) : (catL A B).modify q (fun x => x ++ [r]) = catL A (B.modify q fun x => x ++ [r]) := by
  apply List.ext_getElem?
  intro i
  unfold catL
  rw [List.getElem?_modify, List.getElem?_zipWith, List.getElem?_zipWith, List.getElem?_modify]
  cases A[i]? with
  | none => simp
  | some a =>
    cases B[i]? with
    | none => simp
    | some b =>
      by_cases h : q = i
      · simp [h]
      · simp [h]
theorem splitF_base (P : Int) : ∀ (l : List Rec) (t : Int) (A B : List (List Rec)), splitF P l (t, catL A B) = ((splitF P l (t, B)).1, catL A (splitF P l (t, B)).2)
  | [], t, A, B => rfl
  | x :: l, t, A, B => by
    show splitF P l ((goF P t x).2, (catL A B).modify _ _) = _
    rw [catL_modify]
    exact splitF_base P l _ A _
theorem catL_nil (A : List (List Rec)) : catL A (List.replicate A.length []) = A := by
  apply List.ext_getElem?
  intro i
  unfold catL
  rw [List.getElem?_zipWith, List.getElem?_replicate]
  by_cases h : i < A.length
  · rw [if_pos h, List.getElem?_eq_getElem h]; simp
  · rw [if_neg h, List.getElem?_eq_none (by omega)]
/-- Two goes are one. -/
theorem splitF_two (P : Int) (n : Nat) (l : List Rec) (k : Nat) (t0 : Int) :
    splitF P l (t0, List.replicate n []) = ((splitF P (l.drop k) ((splitF P (l.take k) (t0, List.replicate n [])).1, List.replicate n [])).1,
      catL (splitF P (l.take k) (t0, List.replicate n [])).2 (splitF P (l.drop k) ((splitF P (l.take k) (t0, List.replicate n [])).1, List.replicate n [])).2) := by
  conv => lhs; rw [← List.take_append_drop k l]
  rw [splitF_append]
  have hl := splitF_len P (l.take k) (t0, List.replicate n [])
  rw [List.length_replicate] at hl
  generalize splitF P (l.take k) (t0, List.replicate n []) = s at *
  obtain ⟨t, A⟩ := s
  have h : (t, A) = (t, catL A (List.replicate n [])) := by
    have := catL_nil A
    dsimp only at hl
    rw [hl] at this
    rw [this]
  conv => lhs; rw [h]
  exact splitF_base P (l.drop k) t A _
theorem alike_num (r : Rec) (i j : Nat) : alikeB (numR r i) (numR r j) = true := by simp [alikeB, numR]
end Go.Proofs.YtmbmibinnjfbdaaGreat
