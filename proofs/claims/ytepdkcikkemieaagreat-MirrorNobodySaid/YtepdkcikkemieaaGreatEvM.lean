/- THE ENGINE, 13: operations that make a block. -/
import Derived.Test.YtepdkcikkemieaaGreatEvL
noncomputable section
namespace Go.Proofs.YtepdkcikkemieaaGreat
open Go.RowKit
set_option linter.unusedVariables false
set_option linter.unusedSimpArgs false
namespace Ev

/-- How the new block is told: a pointer to it, a slice (length, capacity), a map. -/
inductive Mk where
  | ptr
  | slice (n c : Nat)
  | map
def Mk.val : Mk → Nat → Value
  | .ptr, id => .pointer (some ⟨id, 0, none⟩)
  | .slice n c, id => .slice (some ⟨id, 0, none⟩) n c
  | .map, id => .map (some id)
/-- k copies of a list, one behind the other. -/
def copies : Nat → List Value → List Value
  | 0, _ => []
  | k + 1, l => l ++ copies k l
def bytesOf (s : ByteArray) : List Value := s.data.toList.map fun b => .int .u8 b.toNat
def allocV (P : Program) (t : TypeId) : Option (AObj × Mk) :=
  match (P.info? t).bind (·.zero) with
  | some z => if (cellsL z).all plainS then some (.cells ((cellsL z).map some) none none, .ptr) else none
  | none => none
def boxV (v : Value) : AObj × Mk := (.cells ((cellsL v).map some) none none, .ptr)
def buildSliceV (P : Program) (t : TypeId) (len : Nat) (ps : List (Nat × Value)) : Option (AObj × Mk) :=
  match P.underlying t with
  | some (.slice e) => match tSize P e, (P.info? e).bind (·.zero) with
    | some n, some z =>
      if (cellsL z).all plainS ∧ (cellsL z).length = n ∧ 0 < n ∧ len * n ≤ 2 ^ 24 then
        (fillL (fun i => some (i * n, n)) (copies len (cellsL z)) ps).map fun r => (.cells (r.map some) none none, .slice len len)
      else none
    | _, _ => none
  | _ => none
def makeMapV (P : Program) (t : TypeId) (r : Option Value) : Option (AObj × Mk) :=
  match r with
  | none => some (.map [] 0, .map)
  | some (.int _ _) => match P.underlying t with
    | some (.map _ _) => some (.map [] 0, .map)
    | _ => none
  | _ => none
def makeSliceV (P : Program) (t : TypeId) (l c : Value) : Option (AObj × Mk) :=
  match P.underlying t, l, c with
  | some (.slice e), .int _ l, .int _ c => match P.info? e with
    | some i => match i.zero with
      | some z =>
        if (cellsL z).all plainS ∧ (cellsL z).length = i.size ∧ 0 < i.size ∧ 0 ≤ l ∧ l ≤ c ∧ c ≤ 1048576 ∧ i.bytes * c ≤ 2 ^ 48 then
          some (.cells ((copies c.toNat (cellsL z)).map some) none none, .slice l.toNat c.toNat)
        else none
      | none => none
    | none => none
  | _, _, _ => none
def bytesV' (P : Program) (s d : TypeId) (x : Value) : Option (AObj × Mk) :=
  match P.underlying s, P.underlying d, x with
  | some _, some (.slice e), .string b => match P.underlying e with
    | some (.int .u8) => some (.cells ((bytesOf b).map some) (some 1) none, .slice b.size (BIG + b.size))
    | _ => none
  | _, _, _ => none
def evN (P : Program) (ρ : Operand → Option Value) (op : Op) : Option (AObj × Mk) :=
  match op with
  | .alloc t => allocV P t
  | .box t x => match ρ x with | some v => some (boxV v) | none => none
  | .buildSlice t n ps => match partsV ρ ps.toList with | some l => buildSliceV P t n l | none => none
  | .makeMap t r => match optV ρ r with | some r => makeMapV P t r | none => none
  | .makeSlice t l c => match ρ l, ρ c with
    | some l, some c => makeSliceV P t l c
    | _, _ => none
  | .convert s d x => match ρ x with | some v => bytesV' P s d v | none => none
  | _ => none
section
variable {P : Program} {φ : Phi} {ρ : Operand → Option Value} {ev : Operand → Value} {w : World}
/-- What a making operation does. -/
def Makes (P : Program) (φ : Phi) (s : Sem Value) (o : AObj) (m : Mk) : Prop :=
  ∀ w, ∃ c e n V, s.run P w = .ok V (pushW w c n) ∧ objIs φ o ⟨w.heap.size, 0, e⟩ c ∧ ∀ (ψ : Phi) id, ψ.at_ id = some ⟨w.heap.size, 0, e⟩ → conc ψ (m.val id) = some V
theorem newObj_run (o : Obj) (w : World) : (newObj o).run P w = .ok w.heap.size (pushW w o w.drawn) := rfl
theorem newRow_run (t : TypeId) (cs : Array Value) (w : World) : (newRow t cs).run P w = .ok ⟨w.heap.size, 0, none⟩ (pushW w (.cells cs t) w.drawn) := by
  unfold newRow; rw [bind_ok (newObj_run _ w)]; rfl
theorem objIs_cells {l C : List Value} {B : Nat} {t : TypeId} (h : concL φ l = some C) : objIs φ (.cells (l.map some) none none) ⟨B, 0, 0⟩ (.cells C.toArray t) := by
  refine ⟨C.toArray, t, (0, 0), rfl, .inl (Nat.le_refl _), ⟨rfl, rfl, by simp [concL_len h]⟩, fun i v hi => ?_⟩
  rw [List.getElem?_map] at hi
  cases hv : l[i]? with
  | none => rw [hv] at hi; cases hi
  | some u =>
    rw [hv] at hi; cases hi
    obtain ⟨y, h1, h2⟩ := concL_get h _ _ hv
    exact ⟨y, by simpa using h1, h2⟩
theorem ptr_val {ψ : Phi} {id b e : Nat} (h : ψ.at_ id = some ⟨b, 0, e⟩) : conc ψ (Mk.ptr.val id) = some (.pointer (some ⟨b, 0, none⟩)) := by
  simp [Mk.val, conc, concA, h]
theorem slice_val {ψ : Phi} {id b e n c : Nat} (h : ψ.at_ id = some ⟨b, 0, e⟩) : conc ψ ((Mk.slice n c).val id) = some (.slice (some ⟨b, 0, none⟩) n (if c < BIG then c else c - BIG + e)) := by
  simp [Mk.val, conc, concA, h]
theorem copies_len : ∀ (k : Nat) (l : List Value), (copies k l).length = k * l.length
  | 0, l => by simp [copies]
  | k + 1, l => by simp [copies, copies_len k l, Nat.succ_mul]; omega
theorem copies_get : ∀ (k : Nat) (l : List Value) (i : Nat), 0 < l.length → i < k * l.length → (copies k l)[i]? = l[i % l.length]?
  | 0, l, i, _, h => by simp at h
  | k + 1, l, i, hl, h => by
    rw [copies, List.getElem?_append]
    split
    · next hi => rw [Nat.mod_eq_of_lt hi]
    · next hi =>
      rw [Nat.succ_mul] at h
      rw [copies_get k l _ hl (by omega), ← Nat.mod_eq_sub_mod (by omega)]
theorem copies_plain : ∀ (k : Nat) (l : List Value), l.all plainS = true → (copies k l).all plainS = true
  | 0, l, _ => rfl
  | k + 1, l, h => by simp only [copies, List.all_append, h, copies_plain k l h, Bool.and_self]
theorem range_copies {z : Array Value} (k : Nat) (hz : 0 < z.size) : (Array.range (k * z.size)).map (z[· % z.size]!) = (copies k z.toList).toArray := by
  apply Array.ext_getElem?
  intro i
  simp only [Array.getElem?_map, List.getElem?_toArray]
  by_cases hi : i < k * z.size
  · rw [copies_get k z.toList i (by simpa using hz) (by simpa using hi)]
    have h1 : i % z.size < z.size := Nat.mod_lt _ hz
    have h2 : (Array.range (k * z.size))[i]? = some i := by simp [hi]
    rw [h2]
    simp [h1]
  · rw [List.getElem?_eq_none (by rw [copies_len]; simpa using hi)]
    have h2 : (Array.range (k * z.size))[i]? = none := by simp; omega
    rw [h2]; rfl
theorem allocV_ok {t : TypeId} {o : AObj} {m : Mk} (h : allocV P t = some (o, m)) : Makes P φ (Instr.alloc t true (.tuple #[])) o m := by
  unfold allocV at h
  split at h
  · next z hz =>
    split at h
    · next hp =>
      cases h
      intro w
      refine ⟨.cells (cellsL z).toArray t, 0, w.drawn, .pointer (some ⟨w.heap.size, 0, none⟩), ?_, objIs_cells (concL_plain hp), fun ψ id h => ptr_val h⟩
      unfold Instr.alloc
      rw [bind_ok (zeroValue_run hz)]
      simp only []
      unfold newVar
      rw [cellsL_plain hp, bind_ok (newRow_run _ _ w)]; rfl
    · cases h
  · cases h
theorem boxV_ok {t : TypeId} {v X : Value} (hx : conc φ v = some X) : Makes P φ (Instr.box t X) (boxV v).1 (boxV v).2 := by
  intro w
  have := cellsL_conc hx
  refine ⟨.cells X.cells.toList.toArray t, 0, w.drawn, .pointer (some ⟨w.heap.size, 0, none⟩), ?_, objIs_cells this, fun ψ id h => ptr_val h⟩
  unfold Instr.box newVar
  rw [bind_ok (newRow_run _ _ w)]; simp
theorem buildSliceV_ok {t : TypeId} {n : Nat} {ps PS : List (Nat × Value)} {o : AObj} {m : Mk} (h : buildSliceV P t n ps = some (o, m)) (hp : concPs φ ps PS) : Makes P φ (Instr.buildSlice t n PS.toArray) o m := by
  unfold buildSliceV at h
  split at h
  · next e hu =>
    split at h
    · next sz z hs hz =>
      split at h
      · next hc =>
        obtain ⟨h1, h2, h3, h4⟩ := hc
        cases hf : fillL (fun i => some (i * sz, sz)) (copies n (cellsL z)) ps with
        | none => rw [hf] at h; cases h
        | some r =>
          rw [hf] at h; cases h
          obtain ⟨R, g1, g2⟩ := fill_run ps PS _ r _ hp hf (concL_plain (copies_plain n _ h1))
          intro w
          refine ⟨.cells R.toArray e, 0, w.drawn, .slice (some ⟨w.heap.size, 0, none⟩) n n, ?_, objIs_cells g2, fun ψ id h => ?_⟩
          · have hzc := cellsL_plain h1
            have hzs : z.cells.size = sz := by rw [hzc]; simpa using h2
            unfold Instr.buildSlice
            rw [bind_ok (underlying_run hu)]
            simp only []
            rw [bind_ok (sizeOf_run hs)]
            rw [if_neg (by omega)]
            have fin : ∀ zero : Array Value, (Array.range (n * sz)).map (zero[· % zero.size]!) = (copies n (cellsL z)).toArray →
                (match Instr.fill (fun i => some (i * sz, sz)) ((Array.range (n * sz)).map (zero[· % zero.size]!)) PS with
                  | some cells => do
                    let a ← newRow e cells
                    pure (Value.slice (some a) n n)
                  | _ => stuck "buildSlice: a part of the wrong size" : Sem Value).run P w = .ok (.slice (some ⟨w.heap.size, 0, none⟩) n n) (pushW w (.cells R.toArray e) w.drawn) := by
              intro zero hz0
              rw [hz0, g1]
              simp only []
              rw [bind_ok (newRow_run _ _ w)]; rfl
            split
            · next h0 =>
              have hn0 : n = 0 := by
                rcases Nat.mul_eq_zero.1 h0 with h | h
                · exact h
                · omega
              rw [bind_ok (run_pure P _ w)]
              exact fin #[] (by subst hn0; simp [copies])
            · next h0 =>
              rw [bind_ok (zeroValue_run hz)]
              rw [bind_ok (run_pure P _ w)]
              refine fin z.cells ?_
              have e1 : n * sz = n * z.cells.size := by rw [hzs]
              rw [e1, range_copies n (by omega), hzc]
          · rw [slice_val h, if_pos]
            have : n ≤ n * sz := Nat.le_mul_of_pos_right _ h3
            unfold BIG; omega
      · cases h
    · cases h
  · cases h
theorem makeMapV_ok {t : TypeId} {r R : Option Value} {o : AObj} {m : Mk} (h : makeMapV P t r = some (o, m)) (hr : concO φ r R) : Makes P φ (Instr.makeMap t R) o m := by
  have fin : ∀ w : World, (do pure (.map (some (← newObj (.map #[] 0)))) : Sem Value).run P w = .ok (.map (some w.heap.size)) (pushW w (.map #[] 0) w.drawn) := fun w => by rw [bind_ok (newObj_run _ w)]; rfl
  have ob : ∀ B, objIs φ (.map [] 0) B (.map #[] 0) := fun B => ⟨#[], rfl, rfl, by simp⟩
  unfold makeMapV at h
  split at h
  · cases h; cases hr
    intro w
    refine ⟨_, 0, w.drawn, _, fin w, ob _, fun ψ id h => by simp [Mk.val, conc, h]⟩
  · split at h
    · next k n _ kk e hu =>
      cases h
      obtain ⟨x, hx, rfl⟩ := hr
      simp [conc] at hx; subst hx
      intro w
      refine ⟨.map #[] 0, 0, w.drawn, .map (some w.heap.size), ?_, ob _, fun ψ id h => by simp [Mk.val, conc, h]⟩
      unfold Instr.makeMap
      simp only []
      rw [bind_ok (underlying_run hu)]
      simp only []
      rw [bind_ok (show (asInt (.int k n)).run P w = .ok n w from rfl)]
      exact fin w
    · cases h
  · cases h
theorem wrap_i64 {n : Int} (h0 : 0 ≤ n) (h1 : n ≤ 1048576) : IntKind.i64.wrap n = n := by
  unfold IntKind.wrap IntKind.signed IntKind.bits
  simp only []
  rw [Int.emod_eq_of_lt h0 (by omega)]
  rw [if_neg (by simp; omega)]
theorem makeSliceV_ok {t : TypeId} {l c L C : Value} {o : AObj} {m : Mk} (h : makeSliceV P t l c = some (o, m)) (hl : conc φ l = some L) (hc : conc φ c = some C) : Makes P φ (Instr.makeSlice t L C) o m := by
  unfold makeSliceV at h
  split at h
  · next e lk l ck c hu =>
    split at h
    · next i hi =>
      split at h
      · next z hz =>
        split at h
        · next hb =>
          obtain ⟨h1, h2, h3, h4, h5, h6, h7⟩ := hb
          cases h
          simp [conc] at hl hc; subst hl hc
          intro w
          have hzc := cellsL_plain h1
          have hzs : z.cells.size = i.size := by rw [hzc]; simpa using h2
          have e1 : (Array.range (c.toNat * i.size)).map (z.cells[· % z.cells.size]!) = (copies c.toNat (cellsL z)).toArray := by
            have : c.toNat * i.size = c.toNat * z.cells.size := by rw [hzs]
            rw [this, range_copies c.toNat (by omega), hzc]
          refine ⟨.cells (copies c.toNat (cellsL z)).toArray e, 0, w.drawn, .slice (some ⟨w.heap.size, 0, none⟩) l.toNat c.toNat, ?_, objIs_cells (concL_plain (copies_plain _ _ h1)), fun ψ id h => ?_⟩
          · unfold Instr.makeSlice
            rw [bind_ok (underlying_run hu)]
            simp only []
            rw [bind_ok (show (asInt (.int lk l)).run P w = .ok l w from rfl), bind_ok (show (asInt (.int ck c)).run P w = .ok c w from rfl), bind_ok (typeInfo_run hi)]
            simp only [wrap_i64 h4 (by omega), wrap_i64 (show 0 ≤ c by omega) h6]
            rw [if_neg (by simp; omega)]
            have hroom : (askRoom (c.toNat * i.bytes)).run P w = .ok () w := by unfold askRoom; split <;> rfl
            rw [bind_ok hroom, bind_ok (sizeOf_run (n := i.size) (by rw [hi]; rfl))]
            have fin : ∀ zero : Array Value, (Array.range (c.toNat * i.size)).map (zero[· % zero.size]!) = (copies c.toNat (cellsL z)).toArray →
                (do
                  let a ← newRow e ((Array.range (c.toNat * i.size)).map (zero[· % zero.size]!))
                  pure (Value.slice (some a) l.toNat c.toNat) : Sem Value).run P w = .ok (.slice (some ⟨w.heap.size, 0, none⟩) l.toNat c.toNat) (pushW w (.cells (copies c.toNat (cellsL z)).toArray e) w.drawn) := by
              intro zero hz0
              rw [hz0, bind_ok (newRow_run _ _ w)]; rfl
            split
            · next h0 =>
              have hn0 : c.toNat = 0 := by
                rcases Nat.mul_eq_zero.1 h0 with h | h
                · exact h
                · omega
              rw [bind_ok (run_pure P _ w)]
              exact fin #[] (by rw [hn0]; simp [copies])
            · next h0 =>
              rw [bind_ok (zeroValue_run (v := z) (by rw [hi]; exact hz)), bind_ok (run_pure P _ w)]
              exact fin z.cells e1
          · rw [slice_val h, if_pos]
            unfold BIG; omega
        · cases h
      · cases h
    · cases h
  · cases h
theorem bytesV'_ok {s d : TypeId} {x X : Value} {o : AObj} {m : Mk} (h : bytesV' P s d x = some (o, m)) (hx : conc φ x = some X) : Makes P φ (Go.convert s d X) o m := by
  unfold bytesV' at h
  split at h
  · next sd e b h1 h2 =>
    split at h
    · next h3 =>
      cases h
      simp [conc] at hx; subst hx
      intro w
      generalize hcap : Question.cut (.appendCap b.size 0 e) (w.tape w.drawn (.appendCap b.size 0 e)) = cap
      have hge : b.size ≤ cap := by rw [← hcap]; simp only [Question.cut]; omega
      obtain ⟨cs, hcs⟩ : ∃ cs : Array Value, cs = (b.data.map fun c => .int .u8 c.toNat) ++ Array.replicate (cap - b.size) (.int .u8 0) := ⟨_, rfl⟩
      have hcsz : cs.size = cap := by
        have : b.data.size = b.size := rfl
        rw [hcs]; simp; omega
      refine ⟨.cells cs e (cap, cap + 1), cap - b.size, w.drawn + 1, .slice (some ⟨w.heap.size, 0, none⟩) b.size cap, ?_, ?_, fun ψ id h => ?_⟩
      · unfold Go.convert
        rw [bind_ok (underlying_run h1), bind_ok (underlying_run h2)]
        simp only []
        rw [bind_ok (underlying_run h3)]
        simp only []
        unfold Conv.stringToBytes
        have ec : (choose (.appendCap b.size 0 e)).run P w = .ok cap { w with drawn := w.drawn + 1 } := by
          unfold choose; simp only [Sem.run, Question.forced, Bool.false_eq_true, if_false, hcap]
        rw [bind_ok ec]
        simp only []
        rw [← hcs, bind_ok (newRow_run _ _ _)]
        have em : (markStringish ⟨w.heap.size, 0, none⟩).run P (pushW { w with drawn := w.drawn + 1 } (.cells cs e) (w.drawn + 1)) = .ok () (pushW w (.cells cs e (cap, cap + 1)) (w.drawn + 1)) := by
          have hsh : (Go.shape w.heap.size).run P (pushW { w with drawn := w.drawn + 1 } (.cells cs e) (w.drawn + 1)) = .ok (some (e, cs.size)) (pushW { w with drawn := w.drawn + 1 } (.cells cs e) (w.drawn + 1)) := by
            unfold Go.shape; simp [Sem.run, World.shape?, pushW]
          unfold markStringish
          rw [bind_ok hsh]
          simp only [freeze, Sem.run, hcsz]
          congr 1
          unfold World.freeze pushW
          rw [if_neg (by omega)]
          congr 1
          apply Array.ext_getElem?
          intro i
          simp only [Array.getElem?_modify, Array.getElem?_push]
          by_cases hi : i = w.heap.size
          · subst hi; simp
          · simp only [if_neg hi, if_neg (fun h => hi (Eq.symm h))]
        exact (bind_ok em).trans rfl
      · refine ⟨cs, e, (cap, cap + 1), rfl, .inr (by rw [hcsz]; exact Nat.le_refl _), ?_, fun i v hi => ?_⟩
        · simp only [List.length_map, bytesOf, hcsz]
          have : b.data.toList.length = b.size := Array.length_toList
          omega
        · simp only [bytesOf, List.getElem?_map] at hi
          cases hv : b.data.toList[i]? with
          | none => rw [hv] at hi; cases hi
          | some c =>
            rw [hv] at hi; cases hi
            refine ⟨.int .u8 c.toNat, ?_, rfl⟩
            have hlt : i < b.data.size := by have := (List.getElem?_eq_some_iff.1 hv).1; simpa using this
            simp only [hcs, Nat.zero_add]
            rw [Array.getElem?_append, if_pos (by simpa using hlt), Array.getElem?_map]
            rw [Array.getElem?_toList] at hv
            rw [hv]; rfl
      · have hv := slice_val (n := b.size) (c := BIG + b.size) h
        have e1 : (if BIG + b.size < BIG then BIG + b.size else BIG + b.size - BIG + (cap - b.size)) = cap := by rw [if_neg (by omega)]; omega
        rw [e1] at hv; exact hv
    · cases h
  · cases h
theorem Makes.op {s : Sem Value} {o : AObj} {m : Mk} (h : Makes P φ s o m) (w : World) : ∃ c e n V, (do pure (Next.value (← s)) : Sem Next).run P w = .ok (.value V) (pushW w c n) ∧ objIs φ o ⟨w.heap.size, 0, e⟩ c ∧ ∀ (ψ : Phi) id, ψ.at_ id = some ⟨w.heap.size, 0, e⟩ → conc ψ (m.val id) = some V := by
  obtain ⟨c, e, n, V, h1, h2, h3⟩ := h w
  exact ⟨c, e, n, V, by rw [bind_ok h1]; rfl, h2, h3⟩
theorem evN_ok (hρ : ∀ x u, ρ x = some u → conc φ u = some (ev x)) {o : Oper} {ob : AObj} {m : Mk} (h : evN P ρ o.op = some (ob, m)) (w : World) :
    ∃ c e n V, (execOp ev o).run P w = .ok (.value V) (pushW w c n) ∧ objIs φ ob ⟨w.heap.size, 0, e⟩ c ∧ ∀ (ψ : Phi) id, ψ.at_ id = some ⟨w.heap.size, 0, e⟩ → conc ψ (m.val id) = some V := by
  obtain ⟨dst, op, ty, pos, after, guard⟩ := o
  simp only at h
  unfold evN at h
  split at h
  · exact (allocV_ok h).op w
  · next t x =>
    split at h
    · next v hv => cases h; exact (boxV_ok (hρ _ _ hv)).op w
    · cases h
  · next t n ps =>
    split at h
    · next l hl =>
      have e : (ps.toList.map fun p => (p.1, ev p.2)).toArray = ps.map fun p => (p.1, ev p.2) := by apply Array.toList_inj.1; simp
      have := (buildSliceV_ok (φ := φ) h (partsV_ok hρ _ _ hl)).op w
      rw [e] at this
      exact this
    · cases h
  · next t r =>
    split at h
    · next r' hr => exact (makeMapV_ok h (optV_ok hρ hr)).op w
    · cases h
  · next t l c =>
    split at h
    · next l' c' hl hc => exact (makeSliceV_ok h (hρ _ _ hl) (hρ _ _ hc)).op w
    · cases h
  · next s d x =>
    split at h
    · next v hv => exact (bytesV'_ok h (hρ _ _ hv)).op w
    · cases h
  · cases h
end
end Ev
end Go.Proofs.YtepdkcikkemieaaGreat
