/- THE ENGINE, 8: slices, lengths, structs and arrays built; all operations that need no memory. -/
import Derived.Test.YtepdkcikkemieaaGreatEvG
noncomputable section
namespace Go.Proofs.YtepdkcikkemieaaGreat
open Go.RowKit
set_option linter.unusedVariables false
set_option linter.unusedSimpArgs false
namespace Ev

def bndV (v : Value) (y : Nat) : Option Nat := match v with
  | .int _ i => if 0 ≤ i ∧ i ≤ y then some i.toNat else none
  | _ => none
def boundsV (len cap : Nat) (lo hi mx : Option Value) : Option (Nat × Nat × Nat) :=
  match (match mx with | some v => bndV v cap | none => some cap) with
  | none => none
  | some m => match (match hi, mx with | some v, _ => bndV v m | none, none => some len | none, some _ => none) with
    | none => none
    | some h => match (match lo with | some v => bndV v h | none => some 0) with
      | none => none
      | some l => some (l, h, m)
section
variable {P : Program} {φ : Phi}
theorem bnd_run {v : Value} {y i : Nat} {c : BoundsCode} (h : bndV v y = some i) : RunsTo P (Instr.sliceBound v y c) i ∧ i ≤ y := by
  unfold bndV at h
  split at h
  · next k n =>
    split at h
    · next hb =>
      cases h
      refine ⟨fun w => ?_, by omega⟩
      unfold Instr.sliceBound
      rw [bind_ok (show (asIntOf (.int k n)).run P w = .ok (k, n) w from rfl)]
      simp only [if_pos hb]; rfl
    · cases h
  · cases h
theorem bnd_more {v : Value} {y y' i : Nat} (h : bndV v y = some i) (hy : y ≤ y') : bndV v y' = some i := by
  unfold bndV at *
  split at h
  · split at h
    · next hb => rw [if_pos ⟨hb.1, by omega⟩]; exact h
    · cases h
  · cases h
theorem bounds_run {b : Bool} {len cap : Nat} {lo hi mx : Option Value} {l h m : Nat} (hb : boundsV len cap lo hi mx = some (l, h, m)) : RunsTo P (Instr.sliceBounds b len cap lo hi mx) (l, h, m) ∧ m ≤ cap ∧ l ≤ h ∧ (hi.isSome = true → h ≤ m) ∧ (mx = none → m = cap) ∧ (hi = none → h = len) := by
  unfold boundsV at hb
  split at hb
  · cases hb
  · next m' hm =>
    split at hb
    · cases hb
    · next h' hh =>
      split at hb
      · cases hb
      · next l' hl =>
        cases hb
        have h1 : ∀ c, RunsTo P (match mx with | some v => Instr.sliceBound v cap c | none => pure cap) m ∧ m ≤ cap := by
          intro c
          cases mx with
          | none => cases hm; exact ⟨fun w => rfl, Nat.le_refl _⟩
          | some v => exact bnd_run hm
        have h2 : (hi.isSome = true → h ≤ m) ∧ (hi = none → h = len) := by
          cases hi with
          | none => cases mx <;> simp at hh; exact ⟨by simp, fun _ => hh.symm⟩
          | some v => exact ⟨fun _ => (bnd_run (P := P) (c := .index) (by simpa using hh)).2, by simp⟩
        have h3 : l ≤ h := by
          cases lo with
          | none => cases hl; exact Nat.zero_le _
          | some v => exact (bnd_run (P := P) (c := .index) hl).2
        refine ⟨fun w => ?_, (h1 .index).2, h3, h2.1, fun e => by subst e; cases hm; rfl, h2.2⟩
        unfold Instr.sliceBounds
        cases mx with
        | none =>
          cases hm
          simp only []
          rw [bind_ok (run_pure P _ w)]
          cases hi with
          | none =>
            simp at hh; subst hh
            simp only []
            rw [bind_ok (run_pure P _ w)]
            cases lo with
            | none => cases hl; rfl
            | some v => simp only []; rw [bind_ok ((bnd_run hl).1 w)]; rfl
          | some u =>
            simp only [] at hh ⊢
            rw [bind_ok ((bnd_run hh).1 w)]
            cases lo with
            | none => cases hl; rfl
            | some v => simp only []; rw [bind_ok ((bnd_run hl).1 w)]; rfl
        | some x =>
          simp only [] at hm ⊢
          rw [bind_ok ((bnd_run hm).1 w)]
          cases hi with
          | none => simp at hh
          | some u =>
            simp only [] at hh ⊢
            rw [bind_ok ((bnd_run hh).1 w)]
            cases lo with
            | none => cases hl; rfl
            | some v => simp only []; rw [bind_ok ((bnd_run hl).1 w)]; rfl
theorem bounds_more {len cap e : Nat} {lo hi : Option Value} {l h m : Nat} (hb : boundsV len cap lo hi none = some (l, h, m)) : boundsV len (cap + e) lo hi none = some (l, h, cap + e) := by
  unfold boundsV at *
  simp only [] at *
  cases hi with
  | none =>
    simp only [] at *
    split at hb
    · cases hb
    · cases hb; rfl
  | some v =>
    simp only [] at *
    cases hv : bndV v cap with
    | none => rw [hv] at hb; cases hb
    | some h' =>
      rw [hv] at hb
      rw [bnd_more hv (Nat.le_add_right _ _)]
      simp only [] at *
      split at hb
      · cases hb
      · cases hb; rfl
theorem bounds_more' {len cap e : Nat} {lo hi : Option Value} {x : Value} {l h m : Nat} (hb : boundsV len cap lo hi (some x) = some (l, h, m)) : boundsV len (cap + e) lo hi (some x) = some (l, h, m) := by
  unfold boundsV at *
  simp only [] at *
  cases hv : bndV x cap with
  | none => rw [hv] at hb; cases hb
  | some m' => rw [hv] at hb; rw [bnd_more hv (Nat.le_add_right _ _)]; exact hb
def intsV : Option Value → Bool
  | none => true
  | some (.int _ _) => true
  | _ => false
/-- The same operand, concretely. -/
def concO (φ : Phi) : Option Value → Option Value → Prop
  | none, y => y = none
  | some v, y => ∃ x, conc φ v = some x ∧ y = some x
theorem intsV_eq {v y : Option Value} (h : intsV v = true) (hy : concO φ v y) : y = v := by
  cases v with
  | none => exact hy
  | some v =>
    obtain ⟨x, h1, rfl⟩ := hy
    cases v <;> simp [intsV] at h
    simp [conc] at h1; subst h1; rfl
def sliceV (P : Program) (t : TypeId) (x : Value) (lo hi mx : Option Value) : Option Value :=
  if intsV lo && intsV hi && intsV mx then
    match P.underlying t, x with
    | some (.array n e), .pointer (some a) => match boundsV n n lo hi mx, tSize P e with
      | some (l, h, m), some sz => if m < BIG then some (.slice (some (if m = l then a else a.add (l * sz))) (h - l) (m - l)) else none
      | _, _ => none
    | some .string, .string s => match mx, boundsV s.size s.size lo hi none with
      | none, some (l, h, _) => some (.string (s.extract l h))
      | _, _ => none
    | some (.slice e), .slice none len cap => match boundsV len cap lo hi mx, tSize P e with
      | some (l, h, m), some _ => some (.slice none (h - l) (m - l))
      | _, _ => none
    | some (.slice e), .slice (some a) len cap =>
      if cap < BIG then
        match a.spot, boundsV len cap lo hi mx, tSize P e with
        | none, some (l, h, m), some sz => some (.slice (some (if m = l then a else a.add (l * sz))) (h - l) (m - l))
        | _, _, _ => none
      else
        match mx with
        | none => match boundsV len (cap - BIG) lo hi none, tSize P e with
          | some (l, h, _), some sz =>
            match a.spot with
            | none =>
              if h ≤ cap - BIG then
                if l = cap - BIG ∧ 0 < l then some (.slice (some ⟨a.block, a.off, some (l * sz)⟩) (h - l) (BIG + (cap - BIG - l)))
                else some (.slice (some (a.add (l * sz))) (h - l) (BIG + (cap - BIG - l)))
              else none
            | some _ => if l = 0 ∧ h = 0 then some (.slice (some a) 0 cap) else none
          | _, _ => none
        | some v => match a.spot, boundsV len (cap - BIG) lo hi (some v), tSize P e with
          | none, some (l, h, m), some sz => if m < BIG then some (.slice (some (if m = l then a else a.add (l * sz))) (h - l) (m - l)) else none
          | _, _, _ => none
    | _, _ => none
  else none
theorem conc_slice_mk {a A : Addr} {B : Blk} {n c : Nat} (hb : φ.at_ a.block = some B) (ha : concA φ a = some A) : conc φ (.slice (some a) n c) = some (.slice (some A) n (if c < BIG then c else c - BIG + B.exc)) := by
  simp only [conc, hb, ha]
theorem add_block (a : Addr) (n : Nat) : (a.add n).block = a.block := by unfold Addr.add; split <;> rfl
theorem concA_if {a A : Addr} {p : Prop} [Decidable p] (hs : a.spot = none) (h : concA φ a = some A) (n : Nat) : concA φ (if p then a else a.add n) = some (if p then A else A.add n) ∧ (if p then a else a.add n).block = a.block := by
  split
  · exact ⟨h, rfl⟩
  · exact ⟨(concA_add hs h n).1, add_block a n⟩
theorem concA_at {a A : Addr} (h : concA φ a = some A) : ∃ B, φ.at_ a.block = some B := by
  unfold concA at h
  cases hb : φ.at_ a.block with
  | none => rw [hb] at h; cases h
  | some B => exact ⟨B, rfl⟩
theorem sliceV_ok {t : TypeId} {x v X : Value} {lo hi mx LO HI MX : Option Value} (h : sliceV P t x lo hi mx = some v) (hx : conc φ x = some X) (h1 : concO φ lo LO) (h2 : concO φ hi HI) (h3 : concO φ mx MX) :
    ∃ V, conc φ v = some V ∧ RunsTo P (Instr.sliceAt t X LO HI MX) V := by
  unfold sliceV at h
  split at h
  · next hi' =>
    simp only [Bool.and_eq_true] at hi'
    obtain rfl := intsV_eq hi'.1.1 h1
    obtain rfl := intsV_eq hi'.1.2 h2
    obtain rfl := intsV_eq hi'.2 h3
    clear h1 h2 h3 hi'
    split at h
    · next n e a hu =>
      split at h
      · next l hh m sz hb hsz =>
        split at h
        · next hlt =>
          cases h
          obtain ⟨hs, A, hA, rfl⟩ := conc_ptr hx
          obtain ⟨B, hB⟩ := concA_at hA
          obtain ⟨g1, g2⟩ := concA_if (p := m = l) hs hA (l * sz)
          obtain ⟨hr, hm, hl, _, _, _⟩ := bounds_run (P := P) (b := false) hb
          refine ⟨_, conc_slice_mk (B := B) (by rw [g2]; exact hB) g1, fun w => ?_⟩
          unfold Instr.sliceAt
          rw [bind_ok (underlying_run hu)]
          simp only []
          rw [bind_ok (show (Instr.sureAddr (.pointer (some A))).run P w = .ok A w from rfl), bind_ok (hr w)]
          simp only []
          rw [bind_ok (sizeOf_run hsz), run_pure, if_pos (show m - l < BIG by omega)]
        · cases h
      · cases h
    · next s hu =>
      split at h
      · next l hh m hb =>
        cases h
        simp [conc] at hx; subst hx
        obtain ⟨hr, _⟩ := bounds_run (P := P) (b := false) hb
        refine ⟨_, rfl, fun w => ?_⟩
        unfold Instr.sliceAt
        rw [bind_ok (underlying_run hu)]
        simp only []
        unfold Instr.slice
        rw [bind_ok (underlying_run hu)]
        simp only [Option.isSome_none, Bool.false_eq_true, if_false]
        rw [bind_ok (hr w)]; rfl
      · cases h
    · next e len cap hu =>
      split at h
      · next l hh m sz hb hsz =>
        cases h
        simp [conc] at hx; subst hx
        obtain ⟨hr, _⟩ := bounds_run (P := P) (b := true) hb
        refine ⟨_, rfl, fun w => ?_⟩
        unfold Instr.sliceAt
        rw [bind_ok (underlying_run hu)]
        simp only []
        unfold Instr.slice
        rw [bind_ok (underlying_run hu)]
        simp only []
        rw [bind_ok (hr w)]
        simp only []
        rw [bind_ok (sizeOf_run hsz), run_pure]
        congr 2; split <;> rfl
      · cases h
    · next e a len cap hu =>
      obtain ⟨B, A, hB, hA, rfl⟩ := conc_slice hx
      have key : ∀ (C l hh m sz : Nat) (V : Value), tSize P e = some sz → RunsTo P (Instr.sliceBounds true len C LO HI MX) (l, hh, m) → V = .slice (some (if m = l then A else A.add (l * sz))) (hh - l) (m - l) →
          RunsTo P (Instr.sliceAt t (.slice (some A) len C) LO HI MX) V := by
        intro C l hh m sz V hsz hr hV w
        subst hV
        unfold Instr.sliceAt
        rw [bind_ok (underlying_run hu)]
        simp only []
        unfold Instr.slice
        rw [bind_ok (underlying_run hu)]
        simp only []
        rw [bind_ok (hr w)]
        simp only []
        rw [bind_ok (sizeOf_run hsz), run_pure]
        congr 2; split <;> rfl
      split at h
      · next hc =>
        split at h
        · next l hh m sz hs hb hsz =>
          cases h
          obtain ⟨g1, g2⟩ := concA_if (p := m = l) hs hA (l * sz)
          obtain ⟨hr, hm, _⟩ := bounds_run (P := P) (b := true) hb
          refine ⟨_, conc_slice_mk (B := B) (by rw [g2]; exact hB) g1, ?_⟩
          rw [if_pos hc]
          exact key _ l hh m sz _ hsz hr (by rw [if_pos (show m - l < BIG by omega)])
        · cases h
      · next hc =>
        rw [if_neg hc]
        split at h
        · split at h
          · next l hh m sz hb hsz =>
            obtain ⟨hr0, hm0, hl0, hh0, hm1, hh1⟩ := bounds_run (P := P) (b := true) hb
            obtain ⟨hr, _⟩ := bounds_run (P := P) (b := true) (bounds_more (e := B.exc) hb)
            split at h
            · next hs =>
              split at h
              · next hk =>
                split at h
                · next hl =>
                  cases h
                  refine ⟨_, conc_slice_mk (B := B) hB (show concA φ ⟨a.block, a.off, some (l * sz)⟩ = some (if B.exc = 0 then A else A.add (l * sz)) from ?_), ?_⟩
                  · unfold concA at hA ⊢
                    simp only [hB, hs] at hA ⊢
                    cases hA
                    congr 1
                    split
                    · rfl
                    · rw [add_off]
                  · refine key _ l hh (cap - BIG + B.exc) sz _ hsz hr ?_
                    have e1 : (if BIG + (cap - BIG - l) < BIG then BIG + (cap - BIG - l) else BIG + (cap - BIG - l) - BIG + B.exc) = cap - BIG + B.exc - l := by rw [if_neg (by omega)]; omega
                    have e2 : (if B.exc = 0 then A else A.add (l * sz)) = (if cap - BIG + B.exc = l then A else A.add (l * sz)) := by
                      by_cases he : B.exc = 0
                      · rw [if_pos he, if_pos (by omega)]
                      · rw [if_neg he, if_neg (by omega)]
                    rw [e1, e2]
                · next hl =>
                  cases h
                  obtain ⟨g1, g2⟩ := concA_add hs hA (l * sz)
                  refine ⟨_, conc_slice_mk (B := B) (by rw [add_block]; exact hB) g1, ?_⟩
                  refine key _ l hh (cap - BIG + B.exc) sz _ hsz hr ?_
                  have e1 : (if BIG + (cap - BIG - l) < BIG then BIG + (cap - BIG - l) else BIG + (cap - BIG - l) - BIG + B.exc) = cap - BIG + B.exc - l := by rw [if_neg (by omega)]; omega
                  have e2 : A.add (l * sz) = (if cap - BIG + B.exc = l then A else A.add (l * sz)) := by
                    split
                    · next he =>
                      have : l = 0 := by omega
                      subst this; simp [Addr.add]
                    · rfl
                  rw [e1, ← e2]
              · cases h
            · next sh hs =>
              split at h
              · next hl =>
                cases h
                obtain ⟨rfl, rfl⟩ := hl
                refine ⟨_, conc_slice_mk (B := B) hB hA, ?_⟩
                refine key _ 0 0 (cap - BIG + B.exc) sz _ hsz hr ?_
                have e2 : A = (if cap - BIG + B.exc = 0 then A else A.add (0 * sz)) := by
                  split
                  · rfl
                  · simp [Addr.add]
                rw [if_neg hc, ← e2]; rfl
              · cases h
          · cases h
        · next u =>
          split at h
          · next l hh m sz hs hb hsz =>
            split at h
            · next hlt =>
              cases h
              obtain ⟨g1, g2⟩ := concA_if (p := m = l) hs hA (l * sz)
              obtain ⟨hr, hm, _⟩ := bounds_run (P := P) (b := true) (bounds_more' (e := B.exc) hb)
              refine ⟨_, conc_slice_mk (B := B) (by rw [g2]; exact hB) g1, ?_⟩
              exact key _ l hh m sz _ hsz hr (by rw [if_pos (show m - l < BIG by omega)])
            · cases h
          · cases h
    · cases h
  · cases h
end
end Ev
end Go.Proofs.YtepdkcikkemieaaGreat
