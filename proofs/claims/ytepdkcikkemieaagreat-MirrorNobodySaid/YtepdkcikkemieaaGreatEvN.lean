/- THE ENGINE, 14: operations that write memory (calls apart). -/
import Derived.Test.YtepdkcikkemieaaGreatEvM
noncomputable section
namespace Go.Proofs.YtepdkcikkemieaaGreat
open Go.RowKit
set_option linter.unusedVariables false
set_option linter.unusedSimpArgs false
namespace Ev

def sizedK (n : Nat) : List Value → Bool :=
  @Nat.rec (fun _ => List Value → Bool) (fun l => @List.rec Value (fun _ => Bool) true (fun _ _ _ => false) l) (fun _ ih l => @List.rec Value (fun _ => Bool) false (fun v r _ => @Bool.rec (fun _ => Bool) false (ih r) (oneCell v)) l) n
theorem sizedK_eq : ∀ (n : Nat) (l : List Value), sizedK n l = true ↔ n = l.length ∧ l.all oneCell = true
  | 0, [] => ⟨fun _ => ⟨rfl, rfl⟩, fun _ => rfl⟩
  | 0, v :: r => ⟨fun h => absurd h (by show ¬ (false = true); simp), fun h => by simp at h⟩
  | n + 1, [] => by constructor
                    · intro h; exact absurd h (by show ¬ (false = true); simp)
                    · intro h; simp at h
  | n + 1, v :: r => by
    show (@Bool.rec (fun _ => Bool) false (sizedK n r) (oneCell v)) = true ↔ _
    cases ho : oneCell v with
    | false => simp [ho]
    | true => simp only [List.length_cons, List.all_cons, ho, Bool.true_and]; rw [sizedK_eq n r]; constructor <;> rintro ⟨h1, h2⟩ <;> exact ⟨by omega, h2⟩
def storeV (P : Program) (H : Heap) (t : TypeId) (a v : Value) : Option (Value × Heap) :=
  match a with
  | .pointer (some a) => match tSize P t with
    | some n => match sizedK n (cellsL v) with
      | true => match H.store a.block a.off (cellsL v) with
        | some H' => some (undef, H')
        | none => none
      | false => none
    | none => none
  | _ => none
theorem storeV_eq (P : Program) (H : Heap) (t : TypeId) (a v : Value) : storeV P H t a v = match a with
  | .pointer (some a) =>
    if tSize P t = some (cellsL v).length ∧ (cellsL v).all oneCell then (H.store a.block a.off (cellsL v)).map fun H' => (undef, H') else none
  | _ => none := by
  unfold storeV
  split
  · next a =>
    cases hs : tSize P t with
    | none => rw [if_neg (by simp)]
    | some n =>
      simp only []
      cases hk : sizedK n (cellsL v) with
      | true =>
        have := (sizedK_eq n (cellsL v)).1 hk
        rw [if_pos ⟨by rw [this.1], this.2⟩]
        cases H.store a.block a.off (cellsL v) <;> rfl
      | false =>
        rw [if_neg (fun h => by
          have := (sizedK_eq n (cellsL v)).2 ⟨Option.some.inj h.1, h.2⟩
          rw [hk] at this; cases this)]
  · rfl
/-- Elements that are appended. -/
def elemsV (H : Heap) (es : Nat) (x : Value) : Option (Nat × List Value) :=
  match x with
  | .slice none n _ => if n = 0 then some (0, []) else none
  | .slice (some a) n _ => match a.spot with
    | none => (H.load a.block a.off (n * es)).map fun l => (n, l)
    | some _ => if n = 0 then some (0, []) else none
  | .string s => some (s.size, bytesOf s)
  | _ => none
def peek (H : Heap) (id k n : Nat) : Option (List (Option Value)) :=
  match H.get id with
  | some (.cells l _ _) => if k + n ≤ l.length then some ((l.drop k).take n) else none
  | _ => none
def openOf (H : Heap) (id : Nat) : Option (Nat × Nat) :=
  match H.get id with
  | some (.cells l (some es) _) => some (l.length, es)
  | _ => none
def notInt : TypeDesc → Bool
  | .int _ => false
  | _ => true
def appendV (P : Program) (H : Heap) (ts : List TypeId) (s x : Value) : Option (Value × Heap) :=
  match ts with
  | t0 :: t1 :: _ => match P.underlying t0, P.underlying t1 with
    | some (.slice e), some d1 =>
      if !notInt d1 then none else
      match P.info? e with
      | none => none
      | some i => match i.zero with
        | none => none
        | some z =>
          if i.size = 0 ∨ z.cells.size ≠ i.size ∨ i.bytes = 0 then none else
          match elemsV H i.size x with
          | none => none
          | some (n, vs) =>
            if vs.length ≠ n * i.size ∨ ¬ vs.all oneCell then none else
            match s with
            | .slice none len cap =>
              if len = 0 ∧ cap = 0 then
                if n = 0 then some (s, H)
                else if n * i.bytes ≤ 140737488355328 then (H.add (.cells (vs.map some) (some i.size) none)).map fun H' => (.slice (some ⟨H.next, 0, none⟩) n (BIG + n), H')
                else none
              else none
            | .slice (some a) len cap =>
              if cap < BIG then
                match a.spot with
                | none =>
                  if len + n ≤ cap then (H.store a.block (a.off + len * i.size) vs).map fun H' => (.slice (some a) (len + n) cap, H')
                  else if (len + n) * i.bytes ≤ 140737488355328 then
                    match peek H a.block a.off (len * i.size) with
                    | some old => (H.add (.cells (old ++ vs.map some) (some i.size) none)).map fun H' => (.slice (some ⟨H.next, 0, none⟩) (len + n) (BIG + (len + n)), H')
                    | none => none
                  else none
                | some _ => none
              else
                match a.spot with
                | none =>
                  if len + n ≤ cap - BIG then (H.store a.block (a.off + len * i.size) vs).map fun H' => (.slice (some a) (len + n) cap, H')
                  else if (len + n) * i.bytes ≤ 140737488355328 then
                    match openOf H a.block with
                    | some (l, es) =>
                      if es = i.size ∧ a.off + (cap - BIG) * es ≤ l ∧ len ≤ cap - BIG then (H.extend a.block a.off (len * i.size) es vs).map fun H' => (.slice (some ⟨H.next, 0, none⟩) (len + n) (BIG + (len + n)), H')
                      else none
                    | none => none
                  else none
                | some _ => none
            | _ => none
    | _, _ => none
  | _ => none
section
variable {P : Program} {φ : Phi} {ρ : Operand → Option Value} {ev : Operand → Value} {H : Heap} {w : World}
/-- What an operation that writes does. -/
def Does (P : Program) (φ : Phi) (H : Heap) (w : World) (s : Sem Value) (v : Value) (H' : Heap) : Prop :=
  ∃ V w' φ', s.run P w = .ok V w' ∧ conc φ' v = some V ∧ Rel φ' H' w' ∧ Step φ H w φ' H' w'
theorem all_one {l L : List Value} (h : l.all oneCell = true) (hl : concL φ l = some L) : ∀ x ∈ L, oneCell x = true := by
  intro x hx
  obtain ⟨i, hi, he⟩ := List.getElem_of_mem hx
  have hlen := concL_len hl
  have h1 : l[i]? = some l[i] := List.getElem?_eq_getElem (by omega)
  obtain ⟨y, g1, g2⟩ := concL_get hl _ _ h1
  have : y = x := by rw [List.getElem?_eq_getElem hi] at g1; simp at g1; rw [← g1]; exact he
  subst this
  exact oneCell_conc ((List.all_eq_true.1 h) _ (List.getElem_mem _)) g2
theorem storeV_ok {t : TypeId} {a v X Y u : Value} {H' : Heap} (hR : Rel φ H w) (h : storeV P H t a v = some (u, H')) (ha : conc φ a = some X) (hv : conc φ v = some Y) :
    ∃ w', (Instr.storeAt t X Y).run P w = .ok () w' ∧ u = undef ∧ Rel φ H' w' ∧ Step φ H w φ H' w' := by
  rw [storeV_eq] at h
  split at h
  · next a =>
    split at h
    · next hc =>
      cases hs : H.store a.block a.off (cellsL v) with
      | none => rw [hs] at h; cases h
      | some H1 =>
        rw [hs] at h; cases h
        obtain ⟨hsp, A, hA, rfl⟩ := conc_ptr ha
        obtain ⟨B, hB, rfl⟩ := concA_none hsp hA
        have hcl := cellsL_conc hv
        obtain ⟨cs, el, fr, g1, g2, g3, g4, g5⟩ := hR.store hs hB hcl
        refine ⟨_, ?_, rfl, g4, g5⟩
        unfold Instr.storeAt
        rw [bind_ok (show (Instr.sureAddr _).run P w = .ok _ w from rfl)]
        unfold storeVar
        rw [bind_ok (sizeOf_run hc.1)]
        have e1 : Y.cells.size = (cellsL v).length := by have := concL_len hcl; simpa using this
        rw [if_neg (by omega)]
        have := storeCells_run (P := P) (o := B.base + a.off) Y.cells.toList 0 w cs el fr g1 g2 (all_one hc.2 hcl) (by omega)
        rw [Nat.add_zero] at this
        exact this
    · cases h
  · cases h
theorem elemsV_ok {es n : Nat} {x X : Value} {vs : List Value} (hR : Rel φ H w) (h : elemsV H es x = some (n, vs)) (hx : conc φ x = some X) (hn : vs.length = n * es) :
    ∃ C : Array Value, (Builtin.lenOf X).run P w = .ok n w ∧ (Builtin.firstCells es n X).run P w = .ok C w ∧ concL φ vs = some C.toList := by
  unfold elemsV at h
  split at h
  · split at h
    · next m c h0 =>
      cases h; subst h0
      simp [conc] at hx; subst hx
      exact ⟨#[], rfl, rfl, rfl⟩
    · cases h
  · next a m c =>
    obtain ⟨B, A, hB, hA, rfl⟩ := conc_slice hx
    split at h
    · next hs =>
      cases hl : H.load a.block a.off (m * es) with
      | none => rw [hl] at h; cases h
      | some l =>
        rw [hl] at h; cases h
        obtain ⟨B', hB', rfl⟩ := concA_none hs hA
        rw [hB] at hB'; cases hB'
        obtain ⟨cs, el, fr, g1, g2, g3, g4⟩ := hR.load hl hB
        exact ⟨_, rfl, loadCells_run g1 g2, g4⟩
    · split at h
      · next h0 =>
        cases h; subst h0
        refine ⟨#[], rfl, ?_, rfl⟩
        show (loadCells A (0 * es)).run P w = _
        rw [Nat.zero_mul]; rfl
      · cases h
  · next s =>
    cases h
    simp [conc] at hx; subst hx
    refine ⟨(s.extract 0 s.size).data.map fun b => .int .u8 b.toNat, rfl, rfl, ?_⟩
    have : (s.extract 0 s.size) = s := by simp
    rw [this, Array.toList_map]
    exact concL_plain (by rw [List.all_eq_true]; intro x hx; simp only [bytesOf, List.mem_map] at hx; obtain ⟨b, _, rfl⟩ := hx; rfl)
  · cases h
theorem peek_ok {id k n : Nat} {l : List (Option Value)} {B : Blk} (hR : Rel φ H w) (h : peek H id k n = some l) (hB : φ.at_ id = some B) :
    ∃ cs el fr, w.heap[B.blk]? = some (.cells cs el fr) ∧ B.base + k + n ≤ cs.size ∧ l.length = n ∧ ∀ (i : Nat) v, l[i]? = some (some v) → ∃ x, cs[B.base + k + i]? = some x ∧ conc φ v = some x := by
  unfold peek at h
  split at h
  · next l' opn mate hg =>
    split at h
    · next hk =>
      cases h
      obtain ⟨c, hc, ho⟩ := hR.objs id _ B hg hB
      obtain ⟨cs, el, fr, rfl, hf, hsz, hv⟩ := size_of_objIs ho
      refine ⟨cs, el, fr, hc, by omega, by simp; omega, fun i v hi => ?_⟩
      rw [List.getElem?_take] at hi
      split at hi
      · rw [List.getElem?_drop] at hi
        obtain ⟨x, g1, g2⟩ := hv _ _ hi
        exact ⟨x, by rw [← g1]; congr 1; omega, g2⟩
      · cases hi
    · cases h
  · cases h
/-- append, up to its two ways. -/
theorem append_in {ts : Array TypeId} {ty t0 t1 e : TypeId} {d1 : TypeDesc} {i : TypeInfo} {X : Value} {n : Nat} (h0 : ts[0]? = some t0) (h1 : ts[1]? = some t1) (hu : P.underlying t0 = some (.slice e)) (hd : P.underlying t1 = some d1)
    (hni : notInt d1 = true) (hi : P.info? e = some i) {base : Option Addr} {len cap : Nat} (hn : (Builtin.lenOf X).run P w = .ok n w) (hle : len + n ≤ cap) {C : Array Value} (hC : (Builtin.firstCells i.size n X).run P w = .ok C w) :
    (Builtin.append_ ts ty #[.slice base len cap, X]).run P w = (match base with
      | some a => do
        storeCells (a.add (len * i.size)) C.toList
        pure (.slice base (len + n) cap)
      | _ => pure (.slice base (len + n) cap) : Sem Value).run P w := by
  unfold Builtin.append_
  simp only [h0]
  show (Sem.bind (underlying t0) _).run P w = _
  refine (bind_ok (underlying_run hu)).trans ?_
  simp only []
  refine (bind_ok (sizeOf_run (n := i.size) (by rw [hi]; rfl))).trans ?_
  simp only [h1]
  refine (bind_ok (underlying_run hd)).trans ?_
  cases d1 <;> simp [notInt] at hni
  all_goals
    refine (bind_ok (run_pure P _ w)).trans ?_
    simp only [Bool.false_eq_true, if_false, Bool.not_false, if_true]
    refine (bind_ok hn).trans ?_
    rw [if_pos hle]
    refine (bind_ok hC).trans ?_
    cases base <;> rfl
theorem append_grow {ts : Array TypeId} {ty t0 t1 e : TypeId} {d1 : TypeDesc} {i : TypeInfo} {z X : Value} {n : Nat} (h0 : ts[0]? = some t0) (h1 : ts[1]? = some t1) (hu : P.underlying t0 = some (.slice e)) (hd : P.underlying t1 = some d1)
    (hni : notInt d1 = true) (hi : P.info? e = some i) (hz : i.zero = some z) (hb : i.bytes ≠ 0) {base : Option Addr} {len cap : Nat} (hn : (Builtin.lenOf X).run P w = .ok n w) (hgt : ¬ len + n ≤ cap) (hroom : (len + n) * i.bytes ≤ 140737488355328)
    {C D : Array Value} (hC : ∀ m, (Builtin.firstCells i.size n X).run P { w with drawn := m } = .ok C { w with drawn := m }) (hD : ∀ m, (Builtin.firstCells i.size len (.slice base len cap)).run P { w with drawn := m } = .ok D { w with drawn := m }) :
    ∃ newCap m, len + n ≤ newCap ∧ (Builtin.append_ ts ty #[.slice base len cap, X]).run P w = .ok (.slice (some ⟨w.heap.size, 0, none⟩) (len + n) newCap) (pushW w (.cells (D ++ C ++ Builtin.zeroCells z.cells (newCap - (len + n))) e) m) := by
  refine ⟨Question.cut (.appendCap (len + n) cap e) (w.tape w.drawn (.appendCap (len + n) cap e)), w.drawn + 1, by simp only [Question.cut]; omega, ?_⟩
  have hfit : ¬ Builtin.nextslicecap (len + n) cap * i.bytes > 2 ^ 48 := by
    have := growslice_fits (bytes := i.bytes) (show cap < len + n by omega) hroom
    omega
  unfold Builtin.append_
  simp only [h0]
  show (Sem.bind (underlying t0) _).run P w = _
  refine (bind_ok (underlying_run hu)).trans ?_
  simp only []
  refine (bind_ok (sizeOf_run (n := i.size) (by rw [hi]; rfl))).trans ?_
  simp only [h1]
  refine (bind_ok (underlying_run hd)).trans ?_
  cases d1 <;> simp [notInt] at hni
  all_goals
    refine (bind_ok (run_pure P _ w)).trans ?_
    simp only [Bool.false_eq_true, if_false, Bool.not_false, if_true]
    refine (bind_ok hn).trans ?_
    rw [if_neg hgt]
    refine (bind_ok (typeInfo_run hi)).trans ?_
    rw [if_neg (by intro h; rcases h.2 with h | h; exact h; exact hb h)]
    refine (bind_ok (typeInfo_run hi)).trans ?_
    rw [if_neg hfit]
    have ec : (choose (.appendCap (len + n) cap e)).run P w = .ok (Question.cut (.appendCap (len + n) cap e) (w.tape w.drawn (.appendCap (len + n) cap e))) { w with drawn := w.drawn + 1 } := by
      unfold choose; simp only [Sem.run, Question.forced, Bool.false_eq_true, if_false]
    refine (bind_ok ec).trans ?_
    refine (bind_ok (typeInfo_run hi)).trans ?_
    have er : ∀ k, (askRoom k).run P { w with drawn := w.drawn + 1 } = .ok () { w with drawn := w.drawn + 1 } := by intro k; unfold askRoom; split <;> rfl
    refine (bind_ok (er _)).trans ?_
    refine (bind_ok (hD _)).trans ?_
    refine (bind_ok (hC _)).trans ?_
    refine (bind_ok (zeroValue_run (v := z) (by rw [hi]; exact hz))).trans ?_
    refine (bind_ok (newRow_run _ _ _)).trans ?_
    rfl
end
end Ev
end Go.Proofs.YtepdkcikkemieaaGreat
