/- THE ENGINE, 2: abstract heaps, what they mean in a world; new blocks, stores. -/
import Derived.Test.YtepdkcikkemieaaGreatEvA
noncomputable section
namespace Go.Proofs.YtepdkcikkemieaaGreat
open Go.RowKit
set_option linter.unusedVariables false
set_option linter.unusedSimpArgs false
namespace Ev

/-- What an abstract block holds. A cell may not be known. 'opn': the elements' size, if there may be room behind. 'mate': the block that may be this one. -/
inductive AObj where
  | cells (l : List (Option Value)) (opn : Option Nat) (mate : Option Nat)
  | map (es : List (Value × Value × Nat)) (clock : Nat)
  | siter (s : ByteArray) (pos : Nat)
  | miter (m : Option Nat) (since : Nat) (seen : List Nat) (stepped : Nat)
structure Heap where
  next : Nat
  tr : Tr AObj
def Heap.get (H : Heap) (id : Nat) : Option AObj := atNum id H.tr.get
theorem Heap.get_eq (H : Heap) (id : Nat) : H.get id = H.tr.get id := atNum_eq id H.tr.get
def AObj.mate : AObj → Option Nat
  | .cells _ _ m => m
  | _ => none
def entIn (φ : Phi) (e : Value × Value × Nat) (m : MapEntry) : Prop := conc φ e.1 = some m.key ∧ conc φ e.2.1 = some m.val ∧ e.2.2 = m.born
def objIs (φ : Phi) (o : AObj) (B : Blk) (c : Obj) : Prop :=
  match o with
  | .cells l opn _ => ∃ cs el fr, c = .cells cs el fr ∧ (fr.2 ≤ fr.1 ∨ cs.size ≤ fr.1) ∧
      (match opn with | some es => B.base + l.length + B.exc * es ≤ cs.size | none => B.base = 0 ∧ B.exc = 0 ∧ l.length = cs.size) ∧
      ∀ (i : Nat) (v : Value), l[i]? = some (some v) → ∃ x, cs[B.base + i]? = some x ∧ conc φ v = some x
  | .map es clock => ∃ en : Array MapEntry, c = .map en clock ∧ en.size = es.length ∧ ∀ (i : Nat) e, es[i]? = some e → ∃ m, en[i]? = some m ∧ entIn φ e m
  | .siter s pos => B.base = 0 ∧ c = .stringIter s pos
  | .miter none since seen stepped => B.base = 0 ∧ c = .mapIter none since seen.toArray stepped
  | .miter (some r) since seen stepped => B.base = 0 ∧ ∃ b, φ.at_ r = some b ∧ c = .mapIter (some b.blk) since seen.toArray stepped
theorem objIs_le {φ ψ : Phi} (h : φ.le ψ) {o : AObj} {B : Blk} {c : Obj} (hc : objIs φ o B c) : objIs ψ o B c := by
  cases o with
  | cells l opn mate =>
    obtain ⟨cs, el, fr, rfl, hf, hs, hv⟩ := hc
    exact ⟨cs, el, fr, rfl, hf, hs, fun i v hi => by obtain ⟨x, h1, h2⟩ := hv i v hi; exact ⟨x, h1, conc_le h _ _ h2⟩⟩
  | map es clock =>
    obtain ⟨en, rfl, hs, hv⟩ := hc
    exact ⟨en, rfl, hs, fun i e hi => by obtain ⟨m, h1, h2, h3, h4⟩ := hv i e hi; exact ⟨m, h1, conc_le h _ _ h2, conc_le h _ _ h3, h4⟩⟩
  | siter s pos => exact hc
  | miter m since seen stepped =>
    cases m with
    | none => exact hc
    | some r => obtain ⟨h0, b, h1, h2⟩ := hc; exact ⟨h0, b, h.1 _ _ h1, h2⟩
structure Rel (φ : Phi) (H : Heap) (w : World) : Prop where
  objs : ∀ id o B, H.get id = some o → φ.at_ id = some B → ∃ c, w.heap[B.blk]? = some c ∧ objIs φ o B c
  dom : ∀ id B, φ.at_ id = some B → id < H.next ∧ B.blk < w.heap.size
  alias : ∀ i j o p B C, H.get i = some o → H.get j = some p → φ.at_ i = some B → φ.at_ j = some C → B.blk = C.blk → i = j ∨ o.mate = some j
/-- A block of the world is one of the heap's. -/
def Own (φ : Phi) (H : Heap) (b : Nat) : Prop := ∃ id o B, H.get id = some o ∧ φ.at_ id = some B ∧ B.blk = b
structure Step (φ : Phi) (H : Heap) (w : World) (φ' : Phi) (H' : Heap) (w' : World) : Prop where
  le : φ.le φ'
  new : ∀ id B, φ'.at_ id = some B → φ.at_ id = some B ∨ H.next ≤ id
  size : w.heap.size ≤ w'.heap.size
  keep : ∀ b, b < w.heap.size → ¬ Own φ H b → w'.heap[b]? = w.heap[b]?
  own : ∀ b, b < w.heap.size → Own φ' H' b → Own φ H b
  next : H.next ≤ H'.next
  tape : w'.tape = w.tape
  os : w'.os = w.os
  output : w'.output = w.output
theorem Step.refl (φ : Phi) (H : Heap) (w : World) : Step φ H w φ H w := ⟨Phi.le_refl φ, fun _ _ h => .inl h, Nat.le_refl _, fun _ _ _ => rfl, fun _ _ h => h, Nat.le_refl _, rfl, rfl, rfl⟩
theorem Step.trans {φ φ1 φ2 : Phi} {H H1 H2 : Heap} {w w1 w2 : World} (a : Step φ H w φ1 H1 w1) (b : Step φ1 H1 w1 φ2 H2 w2) : Step φ H w φ2 H2 w2 where
  le := Phi.le_trans a.le b.le
  new := fun id B h => by
    rcases b.new id B h with h | h
    · exact a.new id B h
    · exact .inr (Nat.le_trans a.next h)
  size := Nat.le_trans a.size b.size
  keep := fun k hk hn => by rw [b.keep k (Nat.lt_of_lt_of_le hk a.size) (fun h => hn (a.own k hk h)), a.keep k hk hn]
  own := fun k hk h => a.own k hk (b.own k (Nat.lt_of_lt_of_le hk a.size) h)
  next := Nat.le_trans a.next b.next
  tape := b.tape.trans a.tape
  os := b.os.trans a.os
  output := b.output.trans a.output
theorem Rel.heap {φ : Phi} {H : Heap} {w w' : World} (h : Rel φ H w) (e : w'.heap = w.heap) : Rel φ H w' := by
  refine ⟨fun id o B h1 h2 => ?_, fun id B h1 => ?_, h.alias⟩
  · rw [e]; exact h.objs id o B h1 h2
  · rw [e]; exact h.dom id B h1
theorem Step.heap {φ φ' : Phi} {H H' : Heap} {w w' w'' : World} (h : Step φ H w φ' H' w') (e : w''.heap = w'.heap) (t : w''.tape = w'.tape) (o : w''.os = w'.os) (p : w''.output = w'.output) : Step φ H w φ' H' w'' :=
  ⟨h.le, h.new, by rw [e]; exact h.size, fun b hb hn => by rw [e]; exact h.keep b hb hn, h.own, h.next, t.trans h.tape, o.trans h.os, p.trans h.output⟩

/-! ### A new block -/
def addAt (H : Heap) (o : Option AObj) (n : Nat) : Option Heap := @Option.rec (Tr AObj) (fun _ => Option Heap) none (fun t => some ⟨Nat.succ n, t⟩) (Tr.set 40 H.tr n o)
def Heap.add (H : Heap) (o : AObj) : Option Heap := atNum H.next (addAt H (some o))
theorem Heap.add_eq (H : Heap) (o : AObj) : H.add o = (Tr.set 40 H.tr H.next (some o)).map fun t => ⟨H.next + 1, t⟩ := by
  unfold Heap.add; rw [atNum_eq]; unfold addAt; cases Tr.set 40 H.tr H.next (some o) <;> rfl
theorem Heap.add_get {H H' : Heap} {o : AObj} (h : H.add o = some H') (m : Nat) : H'.get m = if m = H.next then some o else H.get m := by
  rw [Heap.add_eq] at h; rw [Heap.get_eq, Heap.get_eq]
  cases hs : Tr.set 40 H.tr H.next (some o) with
  | none => rw [hs] at h; cases h
  | some t => rw [hs] at h; cases h; exact Tr.get_set _ _ _ _ _ hs m
theorem Heap.add_next {H H' : Heap} {o : AObj} (h : H.add o = some H') : H'.next = H.next + 1 := by
  rw [Heap.add_eq] at h
  cases hs : Tr.set 40 H.tr H.next (some o) with
  | none => rw [hs] at h; cases h
  | some t => rw [hs] at h; cases h; rfl
/-- A block that is not there yet. -/
theorem Rel.phantom {φ : Phi} {H H' : Heap} {w : World} {o : AObj} (h : Rel φ H w) (ha : H.add o = some H') : Rel φ H' w ∧ φ.at_ H.next = none := by
  have hn : φ.at_ H.next = none := by
    cases hb : φ.at_ H.next with
    | none => rfl
    | some b => exact absurd (h.dom _ _ hb).1 (Nat.lt_irrefl _)
  refine ⟨⟨fun id o' B h1 h2 => ?_, fun id B h1 => ?_, fun i j o p B C hi hj bi bj e => ?_⟩, hn⟩
  · rw [Heap.add_get ha] at h1
    split at h1
    · next he => subst he; rw [hn] at h2; cases h2
    · exact h.objs id o' B h1 h2
  · have := h.dom id B h1
    rw [Heap.add_next ha]; exact ⟨by omega, this.2⟩
  · rw [Heap.add_get ha] at hi hj
    split at hi
    · next he => subst he; rw [hn] at bi; cases bi
    · split at hj
      · next he => subst he; rw [hn] at bj; cases bj
      · exact h.alias i j o p B C hi hj bi bj e
def Phi.put (φ : Phi) (id : Nat) (B : Blk) : Phi := ⟨fun n => if n = id then some B else φ.at_ n, φ.env⟩
theorem Phi.le_put {φ : Phi} {id : Nat} {B : Blk} (h : φ.at_ id = none) : φ.le (φ.put id B) := by
  refine ⟨fun n b hb => ?_, rfl⟩
  show (if n = id then some B else φ.at_ n) = some b
  split
  · next e => subst e; rw [h] at hb; cases hb
  · exact hb
theorem Phi.put_at (φ : Phi) (id : Nat) (B : Blk) : (φ.put id B).at_ id = some B := if_pos rfl
theorem Phi.put_ne {φ : Phi} {id n : Nat} {B : Blk} (h : n ≠ id) : (φ.put id B).at_ n = φ.at_ n := if_neg h
/-- The world with a block more. -/
def pushW (w : World) (o : Obj) (n : Nat) : World := { w with heap := w.heap.push o, drawn := n }
/-- It comes to be. -/
theorem Rel.born {φ : Phi} {H : Heap} {w : World} {id : Nat} {o : AObj} {c : Obj} {e : Nat} {n : Nat} (h : Rel φ H w) (hn : φ.at_ id = none) (hlt : id < H.next) (hg : H.get id = some o)
    (hc : objIs φ o ⟨w.heap.size, 0, e⟩ c) : Rel (φ.put id ⟨w.heap.size, 0, e⟩) H (pushW w c n) := by
  have hle := Phi.le_put (B := ⟨w.heap.size, 0, e⟩) hn
  refine ⟨fun i o' B h1 h2 => ?_, fun i B h1 => ?_, fun i j o1 p B C hi hj bi bj he => ?_⟩
  · by_cases hi : i = id
    · subst hi
      rw [Phi.put_at] at h2; cases h2
      rw [hg] at h1; cases h1
      exact ⟨c, by simp [pushW], objIs_le hle hc⟩
    · rw [Phi.put_ne hi] at h2
      obtain ⟨c', h3, h4⟩ := h.objs i o' B h1 h2
      exact ⟨c', by have := (h.dom i B h2).2; simp [pushW, Array.getElem?_push]; rw [if_neg (by omega)]; exact h3, objIs_le hle h4⟩
  · by_cases hi : i = id
    · subst hi; rw [Phi.put_at] at h1; cases h1; exact ⟨hlt, by simp [pushW]⟩
    · rw [Phi.put_ne hi] at h1
      have := h.dom i B h1
      exact ⟨this.1, by simp [pushW]; omega⟩
  · by_cases h1 : i = id
    · by_cases h2 : j = id
      · exact .inl (h1.trans h2.symm)
      · subst h1; rw [Phi.put_at] at bi; cases bi
        rw [Phi.put_ne h2] at bj
        have := (h.dom j C bj).2
        simp at he; omega
    · rw [Phi.put_ne h1] at bi
      by_cases h2 : j = id
      · subst h2; rw [Phi.put_at] at bj; cases bj
        have := (h.dom i B bi).2
        simp at he; omega
      · rw [Phi.put_ne h2] at bj
        exact h.alias i j o1 p B C hi hj bi bj he
theorem Step.born {φ : Phi} {H : Heap} {w : World} {id : Nat} {c : Obj} {e : Nat} {n : Nat} (hn : φ.at_ id = none) (hdom : ∀ i B, φ.at_ i = some B → B.blk < w.heap.size) :
    (∀ b, b < w.heap.size → (pushW w c n).heap[b]? = w.heap[b]?) ∧ (∀ b, b < w.heap.size → Own (φ.put id ⟨w.heap.size, 0, e⟩) H b → Own φ H b) := by
  refine ⟨fun b hb => by simp [pushW, Array.getElem?_push]; intro h; omega, fun b hb ho => ?_⟩
  obtain ⟨i, o, B, h1, h2, h3⟩ := ho
  by_cases hi : i = id
  · subst hi; rw [Phi.put_at] at h2; cases h2; simp at h3; omega
  · rw [Phi.put_ne hi] at h2; exact ⟨i, o, B, h1, h2, h3⟩
/-- A new block, at once. -/
theorem new_block {φ : Phi} {H H' : Heap} {w : World} {o : AObj} {c : Obj} {e n : Nat} (h : Rel φ H w) (ha : H.add o = some H') (hc : objIs φ o ⟨w.heap.size, 0, e⟩ c) :
    ∃ φ', φ'.at_ H.next = some ⟨w.heap.size, 0, e⟩ ∧ Rel φ' H' (pushW w c n) ∧ Step φ H w φ' H' (pushW w c n) := by
  obtain ⟨h1, hn⟩ := h.phantom ha
  refine ⟨_, Phi.put_at _ _ _, h1.born hn (by rw [Heap.add_next ha]; omega) (by rw [Heap.add_get ha, if_pos rfl]) hc, ?_⟩
  have hb := Step.born (H := H') (c := c) (e := e) (n := n) hn (fun i B hi => (h1.dom i B hi).2)
  refine ⟨Phi.le_put hn, fun id B hB => ?_, by simp [pushW], fun b hb' _ => hb.1 b hb', fun b hb' ho => ?_, by rw [Heap.add_next ha]; omega, rfl, rfl, rfl⟩
  · by_cases hi : id = H.next
    · subst hi; exact .inr (Nat.le_refl _)
    · rw [Phi.put_ne hi] at hB; exact .inl hB
  · obtain ⟨i, o', B, g1, g2, g3⟩ := hb.2 b hb' ho
    rw [Heap.add_get ha] at g1
    split at g1
    · next he => subst he; rw [hn] at g2; cases g2
    · exact ⟨i, o', B, g1, g2, g3⟩
end Ev
end Go.Proofs.YtepdkcikkemieaaGreat
