/- A region that draws its order: readers, a loud call, readers of its result, a loud call, .. : each loud one is the only one that may come up when it does (once the readers of its part are done); readers float. -/
import Derived.Test.YtifoekadjnlhcaaGreatDoorMA
namespace Go.Proofs.YtifoekadjnlhcaaGreatDoor
open Go.RowKit
set_option linter.unusedVariables false
set_option linter.unusedSimpArgs false
def chainC {σ : Type} (P : Program) (l : List Oper) (Q : Exit → Act → World → Prop) (F : σ → World) (m : Nat) (bE : List Bool) : List (List Bool × List Bool) → Act → World → Prop
  | [], a, w => a.tmps.size = m ∧ ∃ aE : Act, (∀ s : σ, wpQuiet P l.toArray (fun w' => w' = F s) (fun a' => a' = aE) (sel bE l) a) ∧ Q .normal aE w
  | (bq, bt) :: rest, a, w => a.tmps.size = m ∧ ∃ aE : Act, (∀ s : σ, wpQuiet P l.toArray (fun w' => w' = F s) (fun a' => a' = aE) (sel bq l) a) ∧ wpList P l.toArray (then' Q (fun w' => ∃ s, w' = F s) (chainC P l Q F m bE rest)) (sel bt l) aE w
def chainB (l : List Oper) (m : Nat) (qE : List Nat) : List (List Nat × Nat) → Array Bool → Bool
  | [], listed => ordC .any l.toArray (fun l2 => decide (Region.ready .any l.toArray l2 = [])) qE listed && dstB m (pickl l qE) && qE.all (fun i => decide (i < l.length))
  | (qs, t) :: rest, listed => ordC .any l.toArray (fun l2 => decide (Region.ready .any l.toArray l2 = [t]) && chainB l m qE rest (l2.setIfInBounds t true)) qs listed && dstB m (pickl l qs) && qs.all (fun i => decide (i < l.length))
def selOK (l : List Oper) : List (List Nat × Nat) → List (List Bool × List Bool) → Prop
  | [], [] => True
  | (qs, t) :: r, (bq, bt) :: r' => pickl l qs = sel bq l ∧ pickl l [t] = sel bt l ∧ selOK l r r'
  | _, _ => False
def chainN (qE : List Nat) : List (List Nat × Nat) → Nat
  | [] => qE.length
  | (qs, _) :: r => qs.length + (chainN qE r + 1)
theorem chain_any {σ : Type} {P : Program} {l : List Oper} {Q : Exit → Act → World → Prop} {F : σ → World} (s1 : σ) {m : Nat} {qE : List Nat} {bE : List Bool} (hsel : Region.noSelect l.toArray = true) (hQ : ∀ c a d v w, Q (.panic c) (a.put d v) w → Q (.panic c) a w) (hbE : pickl l qE = sel bE l) :
    ∀ (segs : List (List Nat × Nat)) (bs : List (List Bool × List Bool)) (listed : Array Bool) (a : Act) (w : World), selOK l segs bs → chainB l m qE segs listed = true → (∃ s, w = F s) → chainC P l Q F m bE bs a w → wpAnyC P .any l.toArray (fun w' => ∃ s, w' = F s) Q (chainN qE segs) listed a w
  | [], [], listed, a, w, _, hB, hw, h => by
    obtain ⟨hm, aE, h1, h2⟩ := h
    simp only [chainB, Bool.and_eq_true] at hB
    obtain ⟨⟨ho, hd⟩, hlt⟩ := hB
    have H := C_all (P := P) (md := .any) (ops := l.toArray) (σ := σ) (Cl := fun s w' => w' = F s) (C := fun w' => ∃ s, w' = F s) (vs := slotOf l.toArray aE) (Q' := Q) (f := 0)
      (E := fun l2 => decide (Region.ready .any l.toArray l2 = [])) (T := fun a3 w3 => Q .normal a3 w3)
      hsel (fun s w1 w2 h1 h2 => h1.trans h2.symm) (fun w3 h => h) hQ (fun l2 a3 w3 hE hT => ⟨by simpa using hE, hT⟩) w hw
      qE listed a ho (ord_of_quiet s1 h2 _ _ _ (pick_map l qE hlt) (by rw [hm]; exact hd) (by rw [hbE]; exact h1))
    exact H
  | (qs, t) :: rest, (bq, bt) :: rest', listed, a, w, hs, hB, hw, h => by
    obtain ⟨hs1, hs2, hs3⟩ := hs
    obtain ⟨hm, aE, h1, h2⟩ := h
    simp only [chainB, Bool.and_eq_true] at hB
    obtain ⟨⟨ho, hd⟩, hlt⟩ := hB
    have H := C_all (P := P) (md := .any) (ops := l.toArray) (σ := σ) (Cl := fun s w' => w' = F s) (C := fun w' => ∃ s, w' = F s) (vs := slotOf l.toArray aE) (Q' := Q) (f := chainN qE rest + 1)
      (E := fun l2 => decide (Region.ready .any l.toArray l2 = [t]) && chainB l m qE rest (l2.setIfInBounds t true))
      (T := fun a' w' => wpList P l.toArray (then' Q (fun w' => ∃ s, w' = F s) (chainC P l Q F m bE rest')) (pickl l [t]) a' w')
      hsel (fun s w1 w2 h1 h2 => h1.trans h2.symm) (fun w3 h => h) hQ ?_ w hw
      qs listed a ho (ord_of_quiet s1 (by rw [hs2]; exact h2) _ _ _ (pick_map l qs hlt) (by rw [hm]; exact hd) (by rw [hs1]; exact h1))
    · exact H
    · intro listed2 a' w' hE hT
      simp only [Bool.and_eq_true, decide_eq_true_eq] at hE
      obtain ⟨hr, hrest⟩ := hE
      have ht : t ∈ Region.ready .any l.toArray listed2 := by rw [hr]; simp
      obtain ⟨_, o, ho, _⟩ := mem_ready.1 ht
      have ho' : l[t]? = some o := by simpa using ho
      refine ⟨fun h1 => (by rw [hr] at h1; cases h1), fun i hi => ?_⟩
      rw [hr] at hi
      obtain rfl : i = t := by simpa using hi
      exact wpOp_mono (fun a2 w2 h' => ⟨h'.1, chain_any s1 hsel hQ hbE rest rest' _ a2 w2 hs3 hrest h'.1 h'.2⟩) (wpOp_pick ho' hT)
  | [], _ :: _, _, _, _, hs, _, _, _ => hs.elim
  | _ :: _, [], _, _, _, hs, _, _, _ => hs.elim
theorem wp_region_chain {σ : Type} (F : σ → World) (s0 : σ) {P : Program} {id : Nat} {Q : Exit → Act → World → Prop} {a : Act} {W : World} {l : List Oper} (segs : List (List Nat × Nat)) (qE : List Nat) (bs : List (List Bool × List Bool)) (bE : List Bool) (h0 : W.drew = F s0)
    (hbE : pickl l qE = sel bE l) (hs : selOK l segs bs) (hm : P.follows .mixedOrders = true) (hB : (Region.noSelect l.toArray && decide (chainN qE segs = l.length) && chainB l a.tmps.size qE segs (Array.replicate l.toArray.size false)) = true) (hQ : ∀ c a d v w, Q (.panic c) (a.put d v) w → Q (.panic c) a w)
    (h : chainC P l Q F a.tmps.size bE bs a (F s0)) : (Code.region id l.toArray true).wp P Q a W := by
  simp only [Bool.and_eq_true, decide_eq_true_eq] at hB
  obtain ⟨⟨hsel, hlen⟩, hB⟩ := hB
  refine wp_region_any hm ?_
  have := wpAny_of_C _ _ _ _ (chain_any s0 hsel hQ hbE segs bs _ a (F s0) hs hB ⟨s0, rfl⟩ h)
  rw [show chainN qE segs = l.toArray.size by simpa using hlen] at this
  rw [← h0] at this
  exact this
end Go.Proofs.YtifoekadjnlhcaaGreatDoor
