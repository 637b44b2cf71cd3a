/- THE ENGINE, 13: operations that make a block. -/
import Derived.Test.YtifoekadjnlhcaaGreatDoorEC
noncomputable section
namespace Go.Proofs.YtifoekadjnlhcaaGreatDoor
open Go.RowKit
set_option linter.unusedVariables false
set_option linter.unusedSimpArgs false
namespace Ev
inductive Mk where
  | ptr
  | slice (n c : Nat)
  | map
def Mk.val : Mk → Nat → Value
  | .ptr, id => .pointer (some ⟨id, 0, none⟩)
  | .slice n c, id => .slice (some ⟨id, 0, none⟩) n c
  | .map, id => .map (some id)
def copies : Nat → List Value → List Value
  | 0, _ => []
  | k + 1, l => l ++ copies k l
def bytesOf (s : ByteArray) : List Value := s.data.toList.map fun b => .int .u8 b.toNat
def bldT : Nat := 98
def allocV (P : Program) (t : TypeId) : Option (AObj × Mk) :=
  match (P.info? t).bind (·.zero) with
  | some z => if (cellsL z).all plainS then some (@Bool.rec (fun _ => AObj) (.cells ((cellsL z).map some) none none) (.typed t (cellsL z) false) (Nat.beq t bldT), .ptr) else none
  | none => none
def boxV (v : Value) : AObj × Mk := (.cells ((cellsL v).map some) none none, .ptr)
def buildSliceV (P : Program) (t : TypeId) (len : Nat) (ps : List (Nat × Value)) : Option (AObj × Mk) :=
  match P.underlying t with
  | some (.slice e) => match tSize P e, (P.info? e).bind (·.zero) with
    | some n, some z =>
      if (cellsL z).all plainS ∧ (cellsL z).length = n ∧ 0 < n ∧ len * n ≤ 2 ^ 24 then
        (fillL (fun i => some (i * n, n)) (copies len (cellsL z)) ps).map fun r => (.cells (r.map some) none none, .slice len len)
      else none
    | _, _ => none
  | _ => none
def makeMapV (P : Program) (t : TypeId) (r : Option Value) : Option (AObj × Mk) :=
  match r with
  | none => some (.map [] 0, .map)
  | some (.int _ _) => match P.underlying t with
    | some (.map _ _) => some (.map [] 0, .map)
    | _ => none
  | _ => none
def makeSliceV (P : Program) (t : TypeId) (l c : Value) : Option (AObj × Mk) :=
  match P.underlying t, l, c with
  | some (.slice e), .int _ l, .int _ c => match P.info? e with
    | some i => match i.zero with
      | some z =>
        if (cellsL z).all plainS ∧ (cellsL z).length = i.size ∧ 0 < i.size ∧ 0 ≤ l ∧ l ≤ c ∧ c ≤ 1048576 ∧ i.bytes * c ≤ 2 ^ 48 then
          some (.cells ((copies c.toNat (cellsL z)).map some) none none, .slice l.toNat c.toNat)
        else none
      | none => none
    | none => none
  | _, _, _ => none
def bytesV' (P : Program) (s d : TypeId) (x : Value) : Option (AObj × Mk) :=
  match P.underlying s, P.underlying d, x with
  | some _, some (.slice e), .string b => match P.underlying e with
    | some (.int .u8) => some (.cells ((bytesOf b).map some) (some 1) none, .slice b.size (BIG + b.size))
    | _ => none
  | _, _, _ => none
def evN (P : Program) (ρ : Operand → Option Value) (op : Op) : Option (AObj × Mk) :=
  match op with
  | .alloc t => allocV P t
  | .box t x => match ρ x with | some v => some (boxV v) | none => none
  | .buildSlice t n ps => match partsV ρ ps.toList with | some l => buildSliceV P t n l | none => none
  | .makeMap t r => match optV ρ r with | some r => makeMapV P t r | none => none
  | .makeSlice t l c => match ρ l, ρ c with
    | some l, some c => makeSliceV P t l c
    | _, _ => none
  | .convert s d x => match ρ x with | some v => bytesV' P s d v | none => none
  | _ => none
section
variable {P : Program} {φ : Phi} {ρ : Operand → Option Value} {ev : Operand → Value} {w : World}
def Makes (P : Program) (φ : Phi) (s : Sem Value) (o : AObj) (m : Mk) : Prop :=
  ∀ w, ∃ c e n V, s.run P w = .ok V (pushW w c n) ∧ objIs φ o ⟨w.heap.size, 0, e⟩ c ∧ ∀ (ψ : Phi) id, ψ.at_ id = some ⟨w.heap.size, 0, e⟩ → conc ψ (m.val id) = some V
theorem newObj_run (o : Obj) (w : World) : (newObj o).run P w = .ok w.heap.size (pushW w o w.drawn) := rfl
theorem newRow_run (t : TypeId) (cs : Array Value) (w : World) : (newRow t cs).run P w = .ok ⟨w.heap.size, 0, none⟩ (pushW w (.cells cs t) w.drawn) := by
  unfold newRow; rw [bind_ok (newObj_run _ w)]; rfl
theorem objIs_cells {l C : List Value} {B : Nat} {t : TypeId} (h : concL φ l = some C) : objIs φ (.cells (l.map some) none none) ⟨B, 0, 0⟩ (.cells C.toArray t) := by
  refine ⟨C.toArray, t, (0, 0), rfl, .inl (Nat.le_refl _), ⟨rfl, rfl, by simp [concL_len h]⟩, fun i v hi => ?_⟩
  rw [List.getElem?_map] at hi
  cases hv : l[i]? with
  | none => rw [hv] at hi; cases hi
  | some u =>
    rw [hv] at hi; cases hi
    obtain ⟨y, h1, h2⟩ := concL_get h _ _ hv
    exact ⟨y, by simpa using h1, h2⟩
theorem objIs_typed {l C : List Value} {B : Nat} {t : TypeId} (h : concL φ l = some C) : objIs φ (.typed t l false) ⟨B, 0, 0⟩ (.cells C.toArray t) := by
  refine ⟨rfl, fun _ => rfl, C, C.toArray, rfl, h, by simp [concL_len h], ?_, fun h => by cases h⟩
  rw [← concL_len h]; simp
theorem ptr_val {ψ : Phi} {id b e : Nat} (h : ψ.at_ id = some ⟨b, 0, e⟩) : conc ψ (Mk.ptr.val id) = some (.pointer (some ⟨b, 0, none⟩)) := by
  simp [Mk.val, conc, concA, h]
theorem slice_val {ψ : Phi} {id b e n c : Nat} (h : ψ.at_ id = some ⟨b, 0, e⟩) : conc ψ ((Mk.slice n c).val id) = some (.slice (some ⟨b, 0, none⟩) n (if c < BIG then c else c - BIG + e)) := by
  simp [Mk.val, conc, concA, h]
theorem copies_len : ∀ (k : Nat) (l : List Value), (copies k l).length = k * l.length
  | 0, l => by simp [copies]
  | k + 1, l => by simp [copies, copies_len k l, Nat.succ_mul]; omega
theorem copies_get : ∀ (k : Nat) (l : List Value) (i : Nat), 0 < l.length → i < k * l.length → (copies k l)[i]? = l[i % l.length]?
  | 0, l, i, _, h => by simp at h
  | k + 1, l, i, hl, h => by
    rw [copies, List.getElem?_append]
    split
    · next hi => rw [Nat.mod_eq_of_lt hi]
    · next hi =>
      rw [Nat.succ_mul] at h
      rw [copies_get k l _ hl (by omega), ← Nat.mod_eq_sub_mod (by omega)]
theorem copies_plain : ∀ (k : Nat) (l : List Value), l.all plainS = true → (copies k l).all plainS = true
  | 0, l, _ => rfl
  | k + 1, l, h => by simp only [copies, List.all_append, h, copies_plain k l h, Bool.and_self]
theorem range_copies {z : Array Value} (k : Nat) (hz : 0 < z.size) : (Array.range (k * z.size)).map (z[· % z.size]!) = (copies k z.toList).toArray := by
  apply Array.ext_getElem?
  intro i
  simp only [Array.getElem?_map, List.getElem?_toArray]
  by_cases hi : i < k * z.size
  · rw [copies_get k z.toList i (by simpa using hz) (by simpa using hi)]
    have h1 : i % z.size < z.size := Nat.mod_lt _ hz
    have h2 : (Array.range (k * z.size))[i]? = some i := by simp [hi]
    rw [h2]
    simp [h1]
  · rw [List.getElem?_eq_none (by rw [copies_len]; simpa using hi)]
    have h2 : (Array.range (k * z.size))[i]? = none := by simp; omega
    rw [h2]; rfl
theorem allocV_ok {t : TypeId} {o : AObj} {m : Mk} (h : allocV P t = some (o, m)) : Makes P φ (Instr.alloc t true (.tuple #[])) o m := by
  unfold allocV at h
  split at h
  · next z hz =>
    split at h
    · next hp =>
      cases h
      intro w
      refine ⟨.cells (cellsL z).toArray t, 0, w.drawn, .pointer (some ⟨w.heap.size, 0, none⟩), ?_, by cases Nat.beq t bldT <;> first | exact objIs_cells (concL_plain hp) | exact objIs_typed (concL_plain hp), fun ψ id h => ptr_val h⟩
      unfold Instr.alloc
      rw [bind_ok (zeroValue_run hz)]
      simp only []
      unfold newVar
      rw [cellsL_plain hp, bind_ok (newRow_run _ _ w)]; rfl
    · cases h
  · cases h
theorem boxV_ok {t : TypeId} {v X : Value} (hx : conc φ v = some X) : Makes P φ (Instr.box t X) (boxV v).1 (boxV v).2 := by
  intro w
  have := cellsL_conc hx
  refine ⟨.cells X.cells.toList.toArray t, 0, w.drawn, .pointer (some ⟨w.heap.size, 0, none⟩), ?_, objIs_cells this, fun ψ id h => ptr_val h⟩
  unfold Instr.box newVar
  rw [bind_ok (newRow_run _ _ w)]; simp
theorem buildSliceV_ok {t : TypeId} {n : Nat} {ps PS : List (Nat × Value)} {o : AObj} {m : Mk} (h : buildSliceV P t n ps = some (o, m)) (hp : concPs φ ps PS) : Makes P φ (Instr.buildSlice t n PS.toArray) o m := by
  unfold buildSliceV at h
  split at h
  · next e hu =>
    split at h
    · next sz z hs hz =>
      split at h
      · next hc =>
        obtain ⟨h1, h2, h3, h4⟩ := hc
        cases hf : fillL (fun i => some (i * sz, sz)) (copies n (cellsL z)) ps with
        | none => rw [hf] at h; cases h
        | some r =>
          rw [hf] at h; cases h
          obtain ⟨R, g1, g2⟩ := fill_run ps PS _ r _ hp hf (concL_plain (copies_plain n _ h1))
          intro w
          refine ⟨.cells R.toArray e, 0, w.drawn, .slice (some ⟨w.heap.size, 0, none⟩) n n, ?_, objIs_cells g2, fun ψ id h => ?_⟩
          · have hzc := cellsL_plain h1
            have hzs : z.cells.size = sz := by rw [hzc]; simpa using h2
            unfold Instr.buildSlice
            rw [bind_ok (underlying_run hu)]
            simp only []
            rw [bind_ok (sizeOf_run hs)]
            rw [if_neg (by omega)]
            have fin : ∀ zero : Array Value, (Array.range (n * sz)).map (zero[· % zero.size]!) = (copies n (cellsL z)).toArray →
                (match Instr.fill (fun i => some (i * sz, sz)) ((Array.range (n * sz)).map (zero[· % zero.size]!)) PS with
                  | some cells => do
                    let a ← newRow e cells
                    pure (Value.slice (some a) n n)
                  | _ => stuck "buildSlice: a part of the wrong size" : Sem Value).run P w = .ok (.slice (some ⟨w.heap.size, 0, none⟩) n n) (pushW w (.cells R.toArray e) w.drawn) := by
              intro zero hz0
              rw [hz0, g1]
              simp only []
              rw [bind_ok (newRow_run _ _ w)]; rfl
            split
            · next h0 =>
              have hn0 : n = 0 := by
                rcases Nat.mul_eq_zero.1 h0 with h | h
                · exact h
                · omega
              rw [bind_ok (run_pure P _ w)]
              exact fin #[] (by subst hn0; simp [copies])
            · next h0 =>
              rw [bind_ok (zeroValue_run hz)]
              rw [bind_ok (run_pure P _ w)]
              refine fin z.cells ?_
              have e1 : n * sz = n * z.cells.size := by rw [hzs]
              rw [e1, range_copies n (by omega), hzc]
          · rw [slice_val h, if_pos]
            have : n ≤ n * sz := Nat.le_mul_of_pos_right _ h3
            unfold BIG; omega
      · cases h
    · cases h
  · cases h
theorem makeMapV_ok {t : TypeId} {r R : Option Value} {o : AObj} {m : Mk} (h : makeMapV P t r = some (o, m)) (hr : concO φ r R) : Makes P φ (Instr.makeMap t R) o m := by
  have fin : ∀ w : World, (do pure (.map (some (← newObj (.map #[] 0)))) : Sem Value).run P w = .ok (.map (some w.heap.size)) (pushW w (.map #[] 0) w.drawn) := fun w => by rw [bind_ok (newObj_run _ w)]; rfl
  have ob : ∀ B, objIs φ (.map [] 0) B (.map #[] 0) := fun B => ⟨#[], rfl, rfl, by simp⟩
  unfold makeMapV at h
  split at h
  · cases h; cases hr
    intro w
    refine ⟨_, 0, w.drawn, _, fin w, ob _, fun ψ id h => by simp [Mk.val, conc, h]⟩
  · split at h
    · next k n _ kk e hu =>
      cases h
      obtain ⟨x, hx, rfl⟩ := hr
      simp [conc] at hx; subst hx
      intro w
      refine ⟨.map #[] 0, 0, w.drawn, .map (some w.heap.size), ?_, ob _, fun ψ id h => by simp [Mk.val, conc, h]⟩
      unfold Instr.makeMap
      simp only []
      rw [bind_ok (underlying_run hu)]
      simp only []
      rw [bind_ok (show (asInt (.int k n)).run P w = .ok n w from rfl)]
      exact fin w
    · cases h
  · cases h
theorem wrap_i64 {n : Int} (h0 : 0 ≤ n) (h1 : n ≤ 1048576) : IntKind.i64.wrap n = n := by
  unfold IntKind.wrap IntKind.signed IntKind.bits
  simp only []
  rw [Int.emod_eq_of_lt h0 (by omega)]
  rw [if_neg (by simp; omega)]
theorem makeSliceV_ok {t : TypeId} {l c L C : Value} {o : AObj} {m : Mk} (h : makeSliceV P t l c = some (o, m)) (hl : conc φ l = some L) (hc : conc φ c = some C) : Makes P φ (Instr.makeSlice t L C) o m := by
  unfold makeSliceV at h
  split at h
  · next e lk l ck c hu =>
    split at h
    · next i hi =>
      split at h
      · next z hz =>
        split at h
        · next hb =>
          obtain ⟨h1, h2, h3, h4, h5, h6, h7⟩ := hb
          cases h
          simp [conc] at hl hc; subst hl hc
          intro w
          have hzc := cellsL_plain h1
          have hzs : z.cells.size = i.size := by rw [hzc]; simpa using h2
          have e1 : (Array.range (c.toNat * i.size)).map (z.cells[· % z.cells.size]!) = (copies c.toNat (cellsL z)).toArray := by
            have : c.toNat * i.size = c.toNat * z.cells.size := by rw [hzs]
            rw [this, range_copies c.toNat (by omega), hzc]
          refine ⟨.cells (copies c.toNat (cellsL z)).toArray e, 0, w.drawn, .slice (some ⟨w.heap.size, 0, none⟩) l.toNat c.toNat, ?_, objIs_cells (concL_plain (copies_plain _ _ h1)), fun ψ id h => ?_⟩
          · unfold Instr.makeSlice
            rw [bind_ok (underlying_run hu)]
            simp only []
            rw [bind_ok (show (asInt (.int lk l)).run P w = .ok l w from rfl), bind_ok (show (asInt (.int ck c)).run P w = .ok c w from rfl), bind_ok (typeInfo_run hi)]
            simp only [wrap_i64 h4 (by omega), wrap_i64 (show 0 ≤ c by omega) h6]
            rw [if_neg (by simp; omega)]
            have hroom : (askRoom (c.toNat * i.bytes)).run P w = .ok () w := by unfold askRoom; split <;> rfl
            rw [bind_ok hroom, bind_ok (sizeOf_run (n := i.size) (by rw [hi]; rfl))]
            have fin : ∀ zero : Array Value, (Array.range (c.toNat * i.size)).map (zero[· % zero.size]!) = (copies c.toNat (cellsL z)).toArray →
                (do
                  let a ← newRow e ((Array.range (c.toNat * i.size)).map (zero[· % zero.size]!))
                  pure (Value.slice (some a) l.toNat c.toNat) : Sem Value).run P w = .ok (.slice (some ⟨w.heap.size, 0, none⟩) l.toNat c.toNat) (pushW w (.cells (copies c.toNat (cellsL z)).toArray e) w.drawn) := by
              intro zero hz0
              rw [hz0, bind_ok (newRow_run _ _ w)]; rfl
            split
            · next h0 =>
              have hn0 : c.toNat = 0 := by
                rcases Nat.mul_eq_zero.1 h0 with h | h
                · exact h
                · omega
              rw [bind_ok (run_pure P _ w)]
              exact fin #[] (by rw [hn0]; simp [copies])
            · next h0 =>
              rw [bind_ok (zeroValue_run (v := z) (by rw [hi]; exact hz)), bind_ok (run_pure P _ w)]
              exact fin z.cells e1
          · rw [slice_val h, if_pos]
            unfold BIG; omega
        · cases h
      · cases h
    · cases h
  · cases h
theorem bytesV'_ok {s d : TypeId} {x X : Value} {o : AObj} {m : Mk} (h : bytesV' P s d x = some (o, m)) (hx : conc φ x = some X) : Makes P φ (Go.convert s d X) o m := by
  unfold bytesV' at h
  split at h
  · next sd e b h1 h2 =>
    split at h
    · next h3 =>
      cases h
      simp [conc] at hx; subst hx
      intro w
      generalize hcap : Question.cut (.appendCap b.size 0 e) (w.tape w.drawn (.appendCap b.size 0 e)) = cap
      have hge : b.size ≤ cap := by rw [← hcap]; simp only [Question.cut]; omega
      obtain ⟨cs, hcs⟩ : ∃ cs : Array Value, cs = (b.data.map fun c => .int .u8 c.toNat) ++ Array.replicate (cap - b.size) (.int .u8 0) := ⟨_, rfl⟩
      have hcsz : cs.size = cap := by
        have : b.data.size = b.size := rfl
        rw [hcs]; simp; omega
      refine ⟨.cells cs e (cap, cap + 1), cap - b.size, w.drawn + 1, .slice (some ⟨w.heap.size, 0, none⟩) b.size cap, ?_, ?_, fun ψ id h => ?_⟩
      · unfold Go.convert
        rw [bind_ok (underlying_run h1), bind_ok (underlying_run h2)]
        simp only []
        rw [bind_ok (underlying_run h3)]
        simp only []
        unfold Conv.stringToBytes
        have ec : (choose (.appendCap b.size 0 e)).run P w = .ok cap { w with drawn := w.drawn + 1 } := by
          unfold choose; simp only [Sem.run, Question.forced, Bool.false_eq_true, if_false, hcap]
        rw [bind_ok ec]
        simp only []
        rw [← hcs, bind_ok (newRow_run _ _ _)]
        have em : (markStringish ⟨w.heap.size, 0, none⟩).run P (pushW { w with drawn := w.drawn + 1 } (.cells cs e) (w.drawn + 1)) = .ok () (pushW w (.cells cs e (cap, cap + 1)) (w.drawn + 1)) := by
          have hsh : (Go.shape w.heap.size).run P (pushW { w with drawn := w.drawn + 1 } (.cells cs e) (w.drawn + 1)) = .ok (some (e, cs.size)) (pushW { w with drawn := w.drawn + 1 } (.cells cs e) (w.drawn + 1)) := by
            unfold Go.shape; simp [Sem.run, World.shape?, pushW]
          unfold markStringish
          rw [bind_ok hsh]
          simp only [freeze, Sem.run, hcsz]
          congr 1
          unfold World.freeze pushW
          rw [if_neg (by omega)]
          congr 1
          apply Array.ext_getElem?
          intro i
          simp only [Array.getElem?_modify, Array.getElem?_push]
          by_cases hi : i = w.heap.size
          · subst hi; simp
          · simp only [if_neg hi, if_neg (fun h => hi (Eq.symm h))]
        exact (bind_ok em).trans rfl
      · refine ⟨cs, e, (cap, cap + 1), rfl, .inr (by rw [hcsz]; exact Nat.le_refl _), ?_, fun i v hi => ?_⟩
        · simp only [List.length_map, bytesOf, hcsz]
          have : b.data.toList.length = b.size := Array.length_toList
          omega
        · simp only [bytesOf, List.getElem?_map] at hi
          cases hv : b.data.toList[i]? with
          | none => rw [hv] at hi; cases hi
          | some c =>
            rw [hv] at hi; cases hi
            refine ⟨.int .u8 c.toNat, ?_, rfl⟩
            have hlt : i < b.data.size := by have := (List.getElem?_eq_some_iff.1 hv).1; simpa using this
            simp only [hcs, Nat.zero_add]
            rw [Array.getElem?_append, if_pos (by simpa using hlt), Array.getElem?_map]
            rw [Array.getElem?_toList] at hv
            rw [hv]; rfl
      · have hv := slice_val (n := b.size) (c := BIG + b.size) h
        have e1 : (if BIG + b.size < BIG then BIG + b.size else BIG + b.size - BIG + (cap - b.size)) = cap := by rw [if_neg (by omega)]; omega
        rw [e1] at hv; exact hv
    · cases h
  · cases h
theorem Makes.op {s : Sem Value} {o : AObj} {m : Mk} (h : Makes P φ s o m) (w : World) : ∃ c e n V, (do pure (Next.value (← s)) : Sem Next).run P w = .ok (.value V) (pushW w c n) ∧ objIs φ o ⟨w.heap.size, 0, e⟩ c ∧ ∀ (ψ : Phi) id, ψ.at_ id = some ⟨w.heap.size, 0, e⟩ → conc ψ (m.val id) = some V := by
  obtain ⟨c, e, n, V, h1, h2, h3⟩ := h w
  exact ⟨c, e, n, V, by rw [bind_ok h1]; rfl, h2, h3⟩
theorem evN_ok (hρ : ∀ x u, ρ x = some u → conc φ u = some (ev x)) {o : Oper} {ob : AObj} {m : Mk} (h : evN P ρ o.op = some (ob, m)) (w : World) :
    ∃ c e n V, (execOp ev o).run P w = .ok (.value V) (pushW w c n) ∧ objIs φ ob ⟨w.heap.size, 0, e⟩ c ∧ ∀ (ψ : Phi) id, ψ.at_ id = some ⟨w.heap.size, 0, e⟩ → conc ψ (m.val id) = some V := by
  obtain ⟨dst, op, ty, pos, after, guard⟩ := o
  simp only at h
  unfold evN at h
  split at h
  · exact (allocV_ok h).op w
  · next t x =>
    split at h
    · next v hv => cases h; exact (boxV_ok (hρ _ _ hv)).op w
    · cases h
  · next t n ps =>
    split at h
    · next l hl =>
      have e : (ps.toList.map fun p => (p.1, ev p.2)).toArray = ps.map fun p => (p.1, ev p.2) := by apply Array.toList_inj.1; simp
      have := (buildSliceV_ok (φ := φ) h (partsV_ok hρ _ _ hl)).op w
      rw [e] at this
      exact this
    · cases h
  · next t r =>
    split at h
    · next r' hr => exact (makeMapV_ok h (optV_ok hρ hr)).op w
    · cases h
  · next t l c =>
    split at h
    · next l' c' hl hc => exact (makeSliceV_ok h (hρ _ _ hl) (hρ _ _ hc)).op w
    · cases h
  · next s d x =>
    split at h
    · next v hv => exact (bytesV'_ok h (hρ _ _ hv)).op w
    · cases h
  · cases h
end
end Ev
end Go.Proofs.YtifoekadjnlhcaaGreatDoor
noncomputable section
namespace Go.Proofs.YtifoekadjnlhcaaGreatDoor
open Go.RowKit
set_option linter.unusedVariables false
set_option linter.unusedSimpArgs false
namespace Ev
def sizedK (n : Nat) : List Value → Bool :=
  @Nat.rec (fun _ => List Value → Bool) (fun l => @List.rec Value (fun _ => Bool) true (fun _ _ _ => false) l) (fun _ ih l => @List.rec Value (fun _ => Bool) false (fun v r _ => @Bool.rec (fun _ => Bool) false (ih r) (oneCell v)) l) n
theorem sizedK_eq : ∀ (n : Nat) (l : List Value), sizedK n l = true ↔ n = l.length ∧ l.all oneCell = true
  | 0, [] => ⟨fun _ => ⟨rfl, rfl⟩, fun _ => rfl⟩
  | 0, v :: r => ⟨fun h => absurd h (by show ¬ (false = true); simp), fun h => by simp at h⟩
  | n + 1, [] => by constructor
                    · intro h; exact absurd h (by show ¬ (false = true); simp)
                    · intro h; simp at h
  | n + 1, v :: r => by
    show (@Bool.rec (fun _ => Bool) false (sizedK n r) (oneCell v)) = true ↔ _
    cases ho : oneCell v with
    | false => simp [ho]
    | true => simp only [List.length_cons, List.all_cons, ho, Bool.true_and]; rw [sizedK_eq n r]; constructor <;> rintro ⟨h1, h2⟩ <;> exact ⟨by omega, h2⟩
def storeV (P : Program) (H : Heap) (t : TypeId) (a v : Value) : Option (Value × Heap) :=
  match a with
  | .pointer (some a) => match tSize P t with
    | some n => match sizedK n (cellsL v) with
      | true => match H.store a.block a.off (cellsL v) with
        | some H' => some (undef, H')
        | none => none
      | false => none
    | none => none
  | _ => none
theorem storeV_eq (P : Program) (H : Heap) (t : TypeId) (a v : Value) : storeV P H t a v = match a with
  | .pointer (some a) =>
    if tSize P t = some (cellsL v).length ∧ (cellsL v).all oneCell then (H.store a.block a.off (cellsL v)).map fun H' => (undef, H') else none
  | _ => none := by
  unfold storeV
  split
  · next a =>
    cases hs : tSize P t with
    | none => rw [if_neg (by simp)]
    | some n =>
      simp only []
      cases hk : sizedK n (cellsL v) with
      | true =>
        have := (sizedK_eq n (cellsL v)).1 hk
        rw [if_pos ⟨by rw [this.1], this.2⟩]
        cases H.store a.block a.off (cellsL v) <;> rfl
      | false =>
        rw [if_neg (fun h => by
          have := (sizedK_eq n (cellsL v)).2 ⟨Option.some.inj h.1, h.2⟩
          rw [hk] at this; cases this)]
  · rfl
def elemsV (H : Heap) (es : Nat) (x : Value) : Option (Nat × List Value) :=
  match x with
  | .slice none n _ => if n = 0 then some (0, []) else none
  | .slice (some a) n _ => match a.spot with
    | none => (H.load a.block a.off (n * es)).map fun l => (n, l)
    | some _ => if n = 0 then some (0, []) else none
  | .string s => some (s.size, bytesOf s)
  | _ => none
def peek (H : Heap) (id k n : Nat) : Option (List (Option Value)) :=
  match H.get id with
  | some (.cells l _ _) => if k + n ≤ l.length then some ((l.drop k).take n) else none
  | _ => none
def openOf (H : Heap) (id : Nat) : Option (Nat × Nat) :=
  match H.get id with
  | some (.cells l (some es) _) => some (l.length, es)
  | _ => none
def notInt : TypeDesc → Bool
  | .int _ => false
  | _ => true
def zerosV (P : Program) (H : Heap) (e : TypeId) (s x : Value) : Option (Value × Heap) :=
  match s, x with
  | .slice none len cap, .int .i64 (.ofNat m) => match P.info? e with
    | some i => match i.zero with
      | some z =>
        if len = 0 ∧ cap = 0 ∧ 0 < m ∧ i.size ≠ 0 ∧ z.cells.size = i.size ∧ (cellsL z).all plainS = true ∧ m * i.bytes ≤ 140737488355328 ∧ m ≤ 1099511627776 then
          (H.add (.cells ((copies m (cellsL z)).map some) (some i.size) none)).map fun H' => (.slice (some ⟨H.next, 0, none⟩) m (BIG + m), H')
        else none
      | none => none
    | none => none
  | _, _ => none
def appendV (P : Program) (H : Heap) (ts : List TypeId) (s x : Value) : Option (Value × Heap) :=
  match ts with
  | t0 :: t1 :: _ => match P.underlying t0, P.underlying t1 with
    | some (.slice e), some d1 =>
      if !notInt d1 then zerosV P H e s x else
      match P.info? e with
      | none => none
      | some i => match i.zero with
        | none => none
        | some z =>
          if i.size = 0 ∨ z.cells.size ≠ i.size ∨ i.bytes = 0 then none else
          match elemsV H i.size x with
          | none => none
          | some (n, vs) =>
            if vs.length ≠ n * i.size ∨ ¬ vs.all oneCell then none else
            match s with
            | .slice none len cap =>
              if len = 0 ∧ cap = 0 then
                if n = 0 then some (s, H)
                else if n * i.bytes ≤ 140737488355328 then (H.add (.cells (vs.map some) (some i.size) none)).map fun H' => (.slice (some ⟨H.next, 0, none⟩) n (BIG + n), H')
                else none
              else none
            | .slice (some a) len cap =>
              if cap < BIG then
                match a.spot with
                | none =>
                  if len + n ≤ cap then (H.store a.block (a.off + len * i.size) vs).map fun H' => (.slice (some a) (len + n) cap, H')
                  else if (len + n) * i.bytes ≤ 140737488355328 then
                    match peek H a.block a.off (len * i.size) with
                    | some old => (H.add (.cells (old ++ vs.map some) (some i.size) none)).map fun H' => (.slice (some ⟨H.next, 0, none⟩) (len + n) (BIG + (len + n)), H')
                    | none => none
                  else none
                | some _ => none
              else
                match a.spot with
                | none =>
                  if len + n ≤ cap - BIG then (H.store a.block (a.off + len * i.size) vs).map fun H' => (.slice (some a) (len + n) cap, H')
                  else if (len + n) * i.bytes ≤ 140737488355328 then
                    match openOf H a.block with
                    | some (l, es) =>
                      if es = i.size ∧ a.off + (cap - BIG) * es ≤ l ∧ len ≤ cap - BIG then (H.extend a.block a.off (len * i.size) es vs).map fun H' => (.slice (some ⟨H.next, 0, none⟩) (len + n) (BIG + (len + n)), H')
                      else none
                    | none => none
                  else none
                | some _ => none
            | _ => none
    | _, _ => none
  | _ => none
section
variable {P : Program} {φ : Phi} {ρ : Operand → Option Value} {ev : Operand → Value} {H : Heap} {w : World}
def Does (P : Program) (φ : Phi) (H : Heap) (w : World) (s : Sem Value) (v : Value) (H' : Heap) : Prop :=
  ∃ V w' φ', s.run P w = .ok V w' ∧ conc φ' v = some V ∧ Rel φ' H' w' ∧ Step φ H w φ' H' w'
theorem all_one {l L : List Value} (h : l.all oneCell = true) (hl : concL φ l = some L) : ∀ x ∈ L, oneCell x = true := by
  intro x hx
  obtain ⟨i, hi, he⟩ := List.getElem_of_mem hx
  have hlen := concL_len hl
  have h1 : l[i]? = some l[i] := List.getElem?_eq_getElem (by omega)
  obtain ⟨y, g1, g2⟩ := concL_get hl _ _ h1
  have : y = x := by rw [List.getElem?_eq_getElem hi] at g1; simp at g1; rw [← g1]; exact he
  subst this
  exact oneCell_conc ((List.all_eq_true.1 h) _ (List.getElem_mem _)) g2
theorem storeV_ok {t : TypeId} {a v X Y u : Value} {H' : Heap} (hR : Rel φ H w) (h : storeV P H t a v = some (u, H')) (ha : conc φ a = some X) (hv : conc φ v = some Y) :
    ∃ w', (Instr.storeAt t X Y).run P w = .ok () w' ∧ u = undef ∧ Rel φ H' w' ∧ Step φ H w φ H' w' := by
  rw [storeV_eq] at h
  split at h
  · next a =>
    split at h
    · next hc =>
      cases hs : H.store a.block a.off (cellsL v) with
      | none => rw [hs] at h; cases h
      | some H1 =>
        rw [hs] at h; cases h
        obtain ⟨hsp, A, hA, rfl⟩ := conc_ptr ha
        obtain ⟨B, hB, rfl⟩ := concA_none hsp hA
        have hcl := cellsL_conc hv
        obtain ⟨cs, el, fr, g1, g2, g3, g4, g5⟩ := hR.store hs hB hcl
        refine ⟨_, ?_, rfl, g4, g5⟩
        unfold Instr.storeAt
        rw [bind_ok (show (Instr.sureAddr _).run P w = .ok _ w from rfl)]
        unfold storeVar
        rw [bind_ok (sizeOf_run hc.1)]
        have e1 : Y.cells.size = (cellsL v).length := by have := concL_len hcl; simpa using this
        rw [if_neg (by omega)]
        have := storeCells_run (P := P) (o := B.base + a.off) Y.cells.toList 0 w cs el fr g1 g2 (all_one hc.2 hcl) (by omega)
        rw [Nat.add_zero] at this
        exact this
    · cases h
  · cases h
theorem elemsV_ok {es n : Nat} {x X : Value} {vs : List Value} (hR : Rel φ H w) (h : elemsV H es x = some (n, vs)) (hx : conc φ x = some X) (hn : vs.length = n * es) :
    ∃ C : Array Value, (Builtin.lenOf X).run P w = .ok n w ∧ (Builtin.firstCells es n X).run P w = .ok C w ∧ concL φ vs = some C.toList := by
  unfold elemsV at h
  split at h
  · split at h
    · next m c h0 =>
      cases h; subst h0
      simp [conc] at hx; subst hx
      exact ⟨#[], rfl, rfl, rfl⟩
    · cases h
  · next a m c =>
    obtain ⟨B, A, hB, hA, rfl⟩ := conc_slice hx
    split at h
    · next hs =>
      cases hl : H.load a.block a.off (m * es) with
      | none => rw [hl] at h; cases h
      | some l =>
        rw [hl] at h; cases h
        obtain ⟨B', hB', rfl⟩ := concA_none hs hA
        rw [hB] at hB'; cases hB'
        obtain ⟨cs, el, fr, g1, g2, g3, g4⟩ := hR.load hl hB
        exact ⟨_, rfl, loadCells_run g1 g2, g4⟩
    · split at h
      · next h0 =>
        cases h; subst h0
        refine ⟨#[], rfl, ?_, rfl⟩
        show (loadCells A (0 * es)).run P w = _
        rw [Nat.zero_mul]; rfl
      · cases h
  · next s =>
    cases h
    simp [conc] at hx; subst hx
    refine ⟨(s.extract 0 s.size).data.map fun b => .int .u8 b.toNat, rfl, rfl, ?_⟩
    have : (s.extract 0 s.size) = s := by simp
    rw [this, Array.toList_map]
    exact concL_plain (by rw [List.all_eq_true]; intro x hx; simp only [bytesOf, List.mem_map] at hx; obtain ⟨b, _, rfl⟩ := hx; rfl)
  · cases h
theorem peek_ok {id k n : Nat} {l : List (Option Value)} {B : Blk} (hR : Rel φ H w) (h : peek H id k n = some l) (hB : φ.at_ id = some B) :
    ∃ cs el fr, w.heap[B.blk]? = some (.cells cs el fr) ∧ B.base + k + n ≤ cs.size ∧ l.length = n ∧ ∀ (i : Nat) v, l[i]? = some (some v) → ∃ x, cs[B.base + k + i]? = some x ∧ conc φ v = some x := by
  unfold peek at h
  split at h
  · next l' opn mate hg =>
    split at h
    · next hk =>
      cases h
      obtain ⟨c, hc, ho⟩ := hR.objs id _ B hg hB
      obtain ⟨cs, el, fr, rfl, hf, hsz, hv⟩ := size_of_objIs ho
      refine ⟨cs, el, fr, hc, by omega, by simp; omega, fun i v hi => ?_⟩
      rw [List.getElem?_take] at hi
      split at hi
      · rw [List.getElem?_drop] at hi
        obtain ⟨x, g1, g2⟩ := hv _ _ hi
        exact ⟨x, by rw [← g1]; congr 1; omega, g2⟩
      · cases hi
    · cases h
  · cases h
theorem append_in {ts : Array TypeId} {ty t0 t1 e : TypeId} {d1 : TypeDesc} {i : TypeInfo} {X : Value} {n : Nat} (h0 : ts[0]? = some t0) (h1 : ts[1]? = some t1) (hu : P.underlying t0 = some (.slice e)) (hd : P.underlying t1 = some d1)
    (hni : notInt d1 = true) (hi : P.info? e = some i) {base : Option Addr} {len cap : Nat} (hn : (Builtin.lenOf X).run P w = .ok n w) (hle : len + n ≤ cap) {C : Array Value} (hC : (Builtin.firstCells i.size n X).run P w = .ok C w) :
    (Builtin.append_ ts ty #[.slice base len cap, X]).run P w = (match base with
      | some a => do
        storeCells (a.add (len * i.size)) C.toList
        pure (.slice base (len + n) cap)
      | _ => pure (.slice base (len + n) cap) : Sem Value).run P w := by
  unfold Builtin.append_
  simp only [h0]
  show (Sem.bind (underlying t0) _).run P w = _
  refine (bind_ok (underlying_run hu)).trans ?_
  simp only []
  refine (bind_ok (sizeOf_run (n := i.size) (by rw [hi]; rfl))).trans ?_
  simp only [h1]
  refine (bind_ok (underlying_run hd)).trans ?_
  cases d1 <;> simp [notInt] at hni
  all_goals
    refine (bind_ok (run_pure P _ w)).trans ?_
    simp only [Bool.false_eq_true, if_false, Bool.not_false, if_true]
    refine (bind_ok hn).trans ?_
    rw [if_pos hle]
    refine (bind_ok hC).trans ?_
    cases base <;> rfl
theorem append_grow {ts : Array TypeId} {ty t0 t1 e : TypeId} {d1 : TypeDesc} {i : TypeInfo} {z X : Value} {n : Nat} (h0 : ts[0]? = some t0) (h1 : ts[1]? = some t1) (hu : P.underlying t0 = some (.slice e)) (hd : P.underlying t1 = some d1)
    (hni : notInt d1 = true) (hi : P.info? e = some i) (hz : i.zero = some z) (hb : i.bytes ≠ 0) {base : Option Addr} {len cap : Nat} (hn : (Builtin.lenOf X).run P w = .ok n w) (hgt : ¬ len + n ≤ cap) (hroom : (len + n) * i.bytes ≤ 140737488355328)
    {C D : Array Value} (hC : ∀ m, (Builtin.firstCells i.size n X).run P { w with drawn := m } = .ok C { w with drawn := m }) (hD : ∀ m, (Builtin.firstCells i.size len (.slice base len cap)).run P { w with drawn := m } = .ok D { w with drawn := m }) :
    ∃ newCap m, len + n ≤ newCap ∧ (Builtin.append_ ts ty #[.slice base len cap, X]).run P w = .ok (.slice (some ⟨w.heap.size, 0, none⟩) (len + n) newCap) (pushW w (.cells (D ++ C ++ Builtin.zeroCells z.cells (newCap - (len + n))) e) m) := by
  refine ⟨Question.cut (.appendCap (len + n) cap e) (w.tape w.drawn (.appendCap (len + n) cap e)), w.drawn + 1, by simp only [Question.cut]; omega, ?_⟩
  have hfit : ¬ Builtin.nextslicecap (len + n) cap * i.bytes > 2 ^ 48 := by
    have := growslice_fits (bytes := i.bytes) (show cap < len + n by omega) hroom
    omega
  unfold Builtin.append_
  simp only [h0]
  show (Sem.bind (underlying t0) _).run P w = _
  refine (bind_ok (underlying_run hu)).trans ?_
  simp only []
  refine (bind_ok (sizeOf_run (n := i.size) (by rw [hi]; rfl))).trans ?_
  simp only [h1]
  refine (bind_ok (underlying_run hd)).trans ?_
  cases d1 <;> simp [notInt] at hni
  all_goals
    refine (bind_ok (run_pure P _ w)).trans ?_
    simp only [Bool.false_eq_true, if_false, Bool.not_false, if_true]
    refine (bind_ok hn).trans ?_
    rw [if_neg hgt]
    refine (bind_ok (typeInfo_run hi)).trans ?_
    rw [if_neg (by intro h; rcases h.2 with h | h; exact h; exact hb h)]
    refine (bind_ok (typeInfo_run hi)).trans ?_
    rw [if_neg hfit]
    have ec : (choose (.appendCap (len + n) cap e)).run P w = .ok (Question.cut (.appendCap (len + n) cap e) (w.tape w.drawn (.appendCap (len + n) cap e))) { w with drawn := w.drawn + 1 } := by
      unfold choose; simp only [Sem.run, Question.forced, Bool.false_eq_true, if_false]
    refine (bind_ok ec).trans ?_
    refine (bind_ok (typeInfo_run hi)).trans ?_
    have er : ∀ k, (askRoom k).run P { w with drawn := w.drawn + 1 } = .ok () { w with drawn := w.drawn + 1 } := by intro k; unfold askRoom; split <;> rfl
    refine (bind_ok (er _)).trans ?_
    refine (bind_ok (hD _)).trans ?_
    refine (bind_ok (hC _)).trans ?_
    refine (bind_ok (zeroValue_run (v := z) (by rw [hi]; exact hz))).trans ?_
    refine (bind_ok (newRow_run _ _ _)).trans ?_
    rfl
theorem append_zeros {ts : Array TypeId} {ty t0 t1 e : TypeId} {k : IntKind} {i : TypeInfo} {z : Value} {n : Nat} (h0 : ts[0]? = some t0) (h1 : ts[1]? = some t1) (hu : P.underlying t0 = some (.slice e)) (hd : P.underlying t1 = some (.int k))
    (hi : P.info? e = some i) (hz : i.zero = some z) (hn : 0 < n) (hs : i.size ≠ 0) (hroom : n * i.bytes ≤ 140737488355328) (hm : n ≤ 1099511627776) :
    ∃ newCap m, n ≤ newCap ∧ (Builtin.append_ ts ty #[.slice none 0 0, .int .i64 (.ofNat n)]).run P w = .ok (.slice (some ⟨w.heap.size, 0, none⟩) n newCap) (pushW w (.cells (#[] ++ Builtin.zeroCells z.cells n ++ Builtin.zeroCells z.cells (newCap - n)) e) m) := by
  refine ⟨Question.cut (.appendCap n 0 e) (w.tape w.drawn (.appendCap n 0 e)), w.drawn + 1, by simp only [Question.cut]; omega, ?_⟩
  have hfit : ¬ Builtin.nextslicecap n 0 * i.bytes > 2 ^ 48 := by
    have := growslice_fits (bytes := i.bytes) (show 0 < n by omega) hroom
    omega
  have hw : IntKind.i64.wrap (Int.ofNat n) = Int.ofNat n := by
    rw [Int.ofNat_eq_natCast]; unfold IntKind.wrap; simp [IntKind.bits, IntKind.signed]; omega
  unfold Builtin.append_
  simp only [h0]
  show (Sem.bind (underlying t0) _).run P w = _
  refine (bind_ok (underlying_run hu)).trans ?_
  simp only []
  refine (bind_ok (sizeOf_run (n := i.size) (by rw [hi]; rfl))).trans ?_
  simp only [h1]
  refine (bind_ok (underlying_run hd)).trans ?_
  refine (bind_ok (run_pure P _ w)).trans ?_
  simp only [if_true, Bool.not_true, Bool.false_eq_true, if_false]
  refine (bind_ok (show (asInt (.int .i64 (.ofNat n))).run P w = .ok (Int.ofNat n) w from rfl)).trans ?_
  rw [hw]
  rw [if_neg (by simp)]
  refine (bind_ok (typeInfo_run hi)).trans ?_
  rw [if_neg (by rw [Int.ofNat_eq_natCast]; omega)]
  refine (bind_ok (run_pure P _ w)).trans ?_
  rw [show (Int.ofNat n).toNat = n from rfl]
  simp only [Nat.zero_add]
  rw [if_neg (by omega)]
  refine (bind_ok (typeInfo_run hi)).trans ?_
  rw [if_neg (by
    intro h
    have h1 := h.1
    have e1 : IntKind.i64.max = 9223372036854775807 := by decide
    rw [e1] at h1; omega)]
  refine (bind_ok (typeInfo_run hi)).trans ?_
  rw [if_neg hfit]
  have ec : (choose (.appendCap n 0 e)).run P w = .ok (Question.cut (.appendCap n 0 e) (w.tape w.drawn (.appendCap n 0 e))) { w with drawn := w.drawn + 1 } := by
    unfold choose; simp only [Sem.run, Question.forced, Bool.false_eq_true, if_false]
  refine (bind_ok ec).trans ?_
  refine (bind_ok (typeInfo_run hi)).trans ?_
  have er : ∀ k, (askRoom k).run P { w with drawn := w.drawn + 1 } = .ok () { w with drawn := w.drawn + 1 } := by intro k; unfold askRoom; split <;> rfl
  refine (bind_ok (er _)).trans ?_
  refine (bind_ok (show (Builtin.firstCells i.size 0 (.slice none 0 0)).run P { w with drawn := w.drawn + 1 } = .ok #[] { w with drawn := w.drawn + 1 } from rfl)).trans ?_
  rw [if_neg (by intro h; rcases Nat.mul_eq_zero.1 h with h | h <;> omega)]
  refine (bind_ok (show (do let v ← zeroValue e; pure (Builtin.zeroCells v.cells n) : Sem (Array Value)).run P { w with drawn := w.drawn + 1 } = .ok (Builtin.zeroCells z.cells n) { w with drawn := w.drawn + 1 } from
    (bind_ok (zeroValue_run (v := z) (by rw [hi]; exact hz))).trans rfl)).trans ?_
  refine (bind_ok (zeroValue_run (v := z) (by rw [hi]; exact hz))).trans ?_
  refine (bind_ok (newRow_run _ _ _)).trans ?_
  rfl
end
end Ev
end Go.Proofs.YtifoekadjnlhcaaGreatDoor
noncomputable section
namespace Go.Proofs.YtifoekadjnlhcaaGreatDoor
open Go.RowKit
set_option linter.unusedVariables false
set_option linter.unusedSimpArgs false
namespace Ev
section
variable {P : Program} {φ : Phi} {H : Heap} {w : World}
theorem zeroCells_size (z : Array Value) (n : Nat) : (Builtin.zeroCells z n).size = n * z.size := by unfold Builtin.zeroCells; simp
theorem grown_obj {old : List (Option Value)} {vs : List Value} {D C Z : Array Value} {es e B : Nat} {t : TypeId} (hD : old.length = D.size) (hold : ∀ (i : Nat) v, old[i]? = some (some v) → ∃ x, D[i]? = some x ∧ conc φ v = some x)
    (hC : concL φ vs = some C.toList) (hZ : Z.size = e * es) : objIs φ (.cells (old ++ vs.map some) (some es) none) ⟨B, 0, e⟩ (.cells (D ++ C ++ Z) t) := by
  have hl := concL_len hC
  simp only [Array.length_toList] at hl
  refine ⟨D ++ C ++ Z, t, (0, 0), rfl, .inl (Nat.le_refl _), ?_, fun i v hi => ?_⟩
  · simp only [List.length_append, List.length_map, Array.size_append, hZ]; omega
  · rw [List.getElem?_append] at hi
    show ∃ x, (D ++ C ++ Z)[0 + i]? = some x ∧ _
    rw [Nat.zero_add, Array.append_assoc]
    split at hi
    · next hlt =>
      obtain ⟨x, g1, g2⟩ := hold i v hi
      exact ⟨x, by rw [Array.getElem?_append, if_pos (by omega)]; exact g1, g2⟩
    · next hge =>
      rw [List.getElem?_map] at hi
      cases hv : vs[i - old.length]? with
      | none => rw [hv] at hi; cases hi
      | some u =>
        rw [hv] at hi; cases hi
        obtain ⟨y, g1, g2⟩ := concL_get hC _ _ hv
        have hlt := (List.getElem?_eq_some_iff.1 hv).1
        refine ⟨y, ?_, g2⟩
        rw [Array.getElem?_append, if_neg (by omega), Array.getElem?_append, if_pos (by omega), ← hD]
        simpa using g1
theorem elems_all {es n : Nat} {x X : Value} {vs : List Value} (hR : Rel φ H w) (h : elemsV H es x = some (n, vs)) (hx : conc φ x = some X) (hn : vs.length = n * es) :
    ∃ C : Array Value, concL φ vs = some C.toList ∧ (Builtin.lenOf X).run P w = .ok n w ∧ ∀ m, (Builtin.firstCells es n X).run P { w with drawn := m } = .ok C { w with drawn := m } := by
  obtain ⟨C, h1, h2, h3⟩ := elemsV_ok (P := P) hR h hx hn
  refine ⟨C, h3, h1, fun m => ?_⟩
  obtain ⟨C', g1, g2, g3⟩ := elemsV_ok (P := P) (hR.heap (w' := { w with drawn := m }) rfl) h hx hn
  rw [h3] at g3
  have : C = C' := Array.toList_inj.1 (Option.some.inj g3)
  rw [this]; exact g2
theorem open_obj {id l es : Nat} {B : Blk} (hR : Rel φ H w) (h : openOf H id = some (l, es)) (hB : φ.at_ id = some B) : ∀ cs el fr, w.heap[B.blk]? = some (.cells cs el fr) → B.base + l + B.exc * es ≤ cs.size := by
  intro cs el fr hc
  unfold openOf at h
  split at h
  · next l' es' mate hg =>
    cases h
    obtain ⟨c, hc', ho⟩ := hR.objs id _ B hg hB
    obtain ⟨cs', el', fr', rfl, hf, hsz, hv⟩ := ho
    rw [hc] at hc'; cases hc'
    simpa using hsz
  · cases h
theorem zerosV_ok {ts : Array TypeId} {ty t0 t1 e : TypeId} {d1 : TypeDesc} {s x v S X : Value} {H' : Heap} (hR : Rel φ H w) (h0 : ts[0]? = some t0) (h1 : ts[1]? = some t1) (hu : P.underlying t0 = some (.slice e)) (hd : P.underlying t1 = some d1) (hni : notInt d1 = false)
    (h : zerosV P H e s x = some (v, H')) (hs : conc φ s = some S) (hx : conc φ x = some X) : Does P φ H w (Builtin.append_ ts ty #[S, X]) v H' := by
  obtain ⟨k, rfl⟩ : ∃ k, d1 = .int k := by cases d1 <;> simp [notInt] at hni; exact ⟨_, rfl⟩
  unfold zerosV at h
  split at h
  · next len cap m =>
    split at h
    · next i hi =>
      split at h
      · next z hz =>
        split at h
        · next hc =>
          obtain ⟨rfl, rfl, hm, hsz, hzs, hpl, hroom, hle⟩ := hc
          simp only [conc, Option.some.injEq] at hs hx
          subst hs hx
          cases hA : H.add (.cells ((copies m (cellsL z)).map some) (some i.size) none) with
          | none => rw [hA] at h; cases h
          | some H1 =>
            rw [hA] at h; cases h
            obtain ⟨nc, mm, hnc, hrun⟩ := append_zeros (w := w) (ty := ty) h0 h1 hu hd hi hz hm hsz hroom hle
            have hzc := cellsL_plain hpl
            have ez : Builtin.zeroCells z.cells m = (copies m (cellsL z)).toArray := by
              unfold Builtin.zeroCells
              rw [hzc]
              exact range_copies m (by have e : (cellsL z).toArray.size = i.size := by rw [← hzc]; exact hzs
                                       omega)
            have hC : concL φ (copies m (cellsL z)) = some (Builtin.zeroCells z.cells m).toList := by
              rw [ez]; exact concL_plain (copies_plain _ _ hpl)
            have hob := grown_obj (φ := φ) (old := []) (vs := copies m (cellsL z)) (D := #[]) (C := Builtin.zeroCells z.cells m) (Z := Builtin.zeroCells z.cells (nc - m)) (es := i.size) (e := nc - m) (B := w.heap.size) (t := e) rfl (by simp) hC (by rw [zeroCells_size, hzs])
            obtain ⟨φ', g1, g2, g3⟩ := new_block (n := mm) hR hA hob
            refine ⟨_, _, φ', hrun, ?_, g2, g3⟩
            have := conc_slice_mk (φ := φ') (a := ⟨H.next, 0, none⟩) (A := ⟨w.heap.size, 0, none⟩) (n := m) (c := BIG + m) g1 (by unfold concA; simp [g1])
            rw [this, if_neg (by omega), show BIG + m - BIG + (nc - m) = nc by omega]
        · cases h
      · cases h
    · cases h
  · cases h
theorem appendV_ok {ts : Array TypeId} {ty : TypeId} {s x v S X : Value} {H' : Heap} (hR : Rel φ H w) (h : appendV P H ts.toList s x = some (v, H')) (hs : conc φ s = some S) (hx : conc φ x = some X) :
    Does P φ H w (Builtin.append_ ts ty #[S, X]) v H' := by
  unfold appendV at h
  split at h
  · next t0 t1 tl hts =>
    have h0 : ts[0]? = some t0 := by rw [← Array.getElem?_toList, hts]; rfl
    have h1 : ts[1]? = some t1 := by rw [← Array.getElem?_toList, hts]; rfl
    split at h
    · next e d1 hu hd =>
      split at h
      · next hni => exact zerosV_ok hR h0 h1 hu hd (by simpa using hni) h hs hx
      · next hni =>
        have hni : notInt d1 = true := by simpa using hni
        split at h
        · cases h
        · next i hi =>
          split at h
          · cases h
          · next z hz =>
            split at h
            · cases h
            · next hc =>
              have hc : i.size ≠ 0 ∧ z.cells.size = i.size ∧ i.bytes ≠ 0 := by omega
              obtain ⟨hes, hzs, hby⟩ := hc
              split at h
              · cases h
              · next n vs hel =>
                split at h
                · cases h
                · next hv =>
                  have hv : vs.length = n * i.size ∧ vs.all oneCell = true := by
                    refine ⟨Classical.byContradiction fun h => hv (.inl h), Classical.byContradiction fun h => hv (.inr h)⟩
                  obtain ⟨hvl, hone⟩ := hv
                  obtain ⟨C, hC, hlen, hfc⟩ := elems_all (P := P) hR hel hx hvl
                  have hCl := concL_len hC
                  simp only [Array.length_toList] at hCl
                  have hfc0 : (Builtin.firstCells i.size n X).run P w = .ok C w := hfc w.drawn
                  split at h
                  · next len cap =>
                    split at h
                    · next h00 =>
                      obtain ⟨rfl, rfl⟩ := h00
                      simp [conc] at hs; subst hs
                      split at h
                      · next hn0 =>
                        cases h; subst hn0
                        refine ⟨_, w, φ, append_in h0 h1 hu hd hni hi hlen (by omega) hfc0, rfl, hR, Step.refl _ _ _⟩
                      · next hn0 =>
                        split at h
                        · next hroom =>
                          cases hA : H.add (.cells (vs.map some) (some i.size) none) with
                          | none => rw [hA] at h; cases h
                          | some H1 =>
                            rw [hA] at h; cases h
                            obtain ⟨nc, m, hnc, hrun⟩ := append_grow (ty := ty) (base := none) (len := 0) (cap := 0) (D := #[]) h0 h1 hu hd hni hi hz hby hlen (by omega) (by simpa using hroom) hfc (fun m => rfl)
                            have hob := grown_obj (φ := φ) (old := []) (vs := vs) (D := #[]) (C := C) (Z := Builtin.zeroCells z.cells (nc - (0 + n))) (es := i.size) (e := nc - (0 + n)) (B := w.heap.size) (t := e) rfl (by simp) hC (by rw [zeroCells_size, hzs])
                            obtain ⟨φ', g1, g2, g3⟩ := new_block (n := m) hR hA hob
                            refine ⟨_, _, φ', hrun, ?_, g2, g3⟩
                            have := conc_slice_mk (φ := φ') (a := ⟨H.next, 0, none⟩) (A := ⟨w.heap.size, 0, none⟩) (n := n) (c := BIG + n) g1 (by unfold concA; simp [g1])
                            rw [this, if_neg (by omega)]
                            congr 2 <;> simp <;> omega
                        · cases h
                    · cases h
                  · next a len cap =>
                    obtain ⟨B, A, hB, hA, rfl⟩ := conc_slice hs
                    have store_case : ∀ (K : Nat) (H1 : Heap), a.spot = none → H.store a.block (a.off + len * i.size) vs = some H1 → len + n ≤ K → conc φ (.slice (some a) (len + n) cap) = some (.slice (some A) (len + n) K) →
                        Does P φ H w (Builtin.append_ ts ty #[.slice (some A) len K, X]) (.slice (some a) (len + n) cap) H1 := by
                      intro K H1 hsp hst hle hcv
                      obtain ⟨B', hB', rfl⟩ := concA_none hsp hA
                      rw [hB] at hB'; cases hB'
                      obtain ⟨cs, el, fr, g1, g2, g3, g4, g5⟩ := hR.store hst hB hC
                      refine ⟨_, _, φ, ?_, hcv, g4, g5⟩
                      rw [append_in h0 h1 hu hd hni hi hlen hle hfc0]
                      simp only []
                      rw [add_off]
                      have := storeCells_run (P := P) (o := B.base + a.off + len * i.size) C.toList 0 w cs el fr g1 g2 (all_one hone hC) (by simp only [Array.length_toList] at *; omega)
                      rw [bind_ok this, run_pure]
                      rw [show B.base + a.off + len * i.size + 0 = B.base + (a.off + len * i.size) by omega]
                    split at h
                    · next hcl =>
                      rw [if_pos hcl]
                      split at h
                      · next hsp =>
                        split at h
                        · next hle =>
                          cases hst : H.store a.block (a.off + len * i.size) vs with
                          | none => rw [hst] at h; cases h
                          | some H1 =>
                            rw [hst] at h; cases h
                            exact store_case cap H' hsp hst hle (by rw [conc_slice_mk hB hA, if_pos hcl])
                        · next hgt =>
                          split at h
                          · next hroom =>
                            split at h
                            · next old hpk =>
                              cases hAd : H.add (.cells (old ++ vs.map some) (some i.size) none) with
                              | none => rw [hAd] at h; cases h
                              | some H1 =>
                                rw [hAd] at h; cases h
                                obtain ⟨B', hB', rfl⟩ := concA_none hsp hA
                                rw [hB] at hB'; cases hB'
                                obtain ⟨cs, el, fr, k1, k2, k3, k4⟩ := peek_ok hR hpk hB
                                have hD : ∀ m, (Builtin.firstCells i.size len (.slice (some ⟨B.blk, B.base + a.off, none⟩) len cap)).run P { w with drawn := m } = .ok (cs.extract (B.base + a.off) (B.base + a.off + len * i.size)) { w with drawn := m } := fun m => loadCells_run k1 k2
                                obtain ⟨nc, m, hnc, hrun⟩ := append_grow (ty := ty) (base := some ⟨B.blk, B.base + a.off, none⟩) h0 h1 hu hd hni hi hz hby hlen hgt hroom hfc hD
                                have hob := grown_obj (φ := φ) (old := old) (vs := vs) (D := cs.extract (B.base + a.off) (B.base + a.off + len * i.size)) (C := C) (Z := Builtin.zeroCells z.cells (nc - (len + n))) (es := i.size) (e := nc - (len + n)) (B := w.heap.size) (t := e)
                                  (by rw [k3]; simp; omega) (fun j v hj => by
                                    obtain ⟨y, q1, q2⟩ := k4 j v hj
                                    have hjl := (List.getElem?_eq_some_iff.1 hj).1
                                    exact ⟨y, by rw [Array.getElem?_extract, if_pos (by omega)]; exact q1, q2⟩) hC (by rw [zeroCells_size, hzs])
                                obtain ⟨φ', g1, g2, g3⟩ := new_block (n := m) hR hAd hob
                                refine ⟨_, _, φ', hrun, ?_, g2, g3⟩
                                have := conc_slice_mk (φ := φ') (a := ⟨H.next, 0, none⟩) (A := ⟨w.heap.size, 0, none⟩) (n := len + n) (c := BIG + (len + n)) g1 (by unfold concA; simp [g1])
                                rw [this, if_neg (by omega)]
                                congr 2; simp; omega
                            · cases h
                          · cases h
                      · cases h
                    · next hcl =>
                      rw [if_neg hcl]
                      split at h
                      · next hsp =>
                        split at h
                        · next hle =>
                          cases hst : H.store a.block (a.off + len * i.size) vs with
                          | none => rw [hst] at h; cases h
                          | some H1 =>
                            rw [hst] at h; cases h
                            exact store_case (cap - BIG + B.exc) H' hsp hst (by omega) (by rw [conc_slice_mk hB hA, if_neg hcl])
                        · next hgt =>
                          split at h
                          · next hroom =>
                            split at h
                            · next l es hop =>
                              split at h
                              · next hcond =>
                                obtain ⟨rfl, hkl, hlk⟩ := hcond
                                cases hext : H.extend a.block a.off (len * i.size) i.size vs with
                                | none => rw [hext] at h; cases h
                                | some H1 =>
                                  rw [hext] at h; cases h
                                  obtain ⟨B', hB', rfl⟩ := concA_none hsp hA
                                  rw [hB] at hB'; cases hB'
                                  have hob := open_obj hR hop hB
                                  by_cases hin : len + n ≤ cap - BIG + B.exc
                                  · obtain ⟨ex, hex⟩ : ∃ ex, len + n + ex = cap - BIG + B.exc := ⟨cap - BIG + B.exc - (len + n), by omega⟩
                                    have hmul : (len + n) * i.size + ex * i.size = (cap - BIG) * i.size + B.exc * i.size := by rw [← Nat.add_mul, ← Nat.add_mul, hex]
                                    have hmul2 : (len + n) * i.size = len * i.size + n * i.size := Nat.add_mul _ _ _
                                    obtain ⟨cs, el, fr, φ', k1, k2, k3, k4, k5, k6⟩ := hR.extend_in (e := ex) hext hB hC (fun cs el fr hc => by
                                      have := hob cs el fr hc
                                      simp only [Array.length_toList]; omega)
                                    refine ⟨.slice (some ⟨B.blk, B.base + a.off, none⟩) (len + n) (cap - BIG + B.exc), _, φ', ?_, ?_, k5, k6⟩
                                    · rw [append_in h0 h1 hu hd hni hi hlen hin hfc0]
                                      simp only []
                                      rw [add_off]
                                      have := storeCells_run (P := P) (o := B.base + a.off + len * i.size) C.toList 0 w cs el fr k1 k2 (all_one hone hC) (by omega)
                                      rw [bind_ok this, run_pure]; rfl
                                    · have := conc_slice_mk (φ := φ') (a := ⟨H.next, 0, none⟩) (A := ⟨B.blk, B.base + a.off, none⟩) (n := len + n) (c := BIG + (len + n)) k4 (by unfold concA; simp [k4])
                                      rw [this, if_neg (by omega)]
                                      have e1 : BIG + (len + n) - BIG + ex = cap - BIG + B.exc := by omega
                                      show some (Value.slice _ _ (BIG + (len + n) - BIG + ex)) = _
                                      rw [e1]
                                  · obtain ⟨l', opn, mate, hg, hk', _, _⟩ := extend_get hext
                                    obtain ⟨c0, hc0, ho0⟩ := hR.objs _ _ B hg hB
                                    obtain ⟨cs, el, fr, rfl, hf0, hsz0, hv0⟩ := size_of_objIs ho0
                                    have hD : ∀ m, (Builtin.firstCells i.size len (.slice (some ⟨B.blk, B.base + a.off, none⟩) len (cap - BIG + B.exc))).run P { w with drawn := m } = .ok (cs.extract (B.base + a.off) (B.base + a.off + len * i.size)) { w with drawn := m } := fun m => loadCells_run hc0 (by omega)
                                    obtain ⟨nc, m, hnc, hrun⟩ := append_grow (ty := ty) (base := some ⟨B.blk, B.base + a.off, none⟩) h0 h1 hu hd hni hi hz hby hlen hin hroom hfc hD
                                    have hDs : (cs.extract (B.base + a.off) (B.base + a.off + len * i.size)).size = len * i.size := by simp; omega
                                    obtain ⟨φ', g1, g2, g3⟩ := hR.extend_new (e := nc - (len + n)) (m := m) (el := e) (cs := cs.extract (B.base + a.off) (B.base + a.off + len * i.size) ++ C ++ Builtin.zeroCells z.cells (nc - (len + n))) hext hB hC
                                      (fun ds dl fr' hds j hj => by
                                        rw [hc0] at hds; cases hds
                                        rw [Array.append_assoc, Array.getElem?_append, if_pos (by omega), Array.getElem?_extract, if_pos (by omega)])
                                      (fun j hj => by
                                        simp only [Array.length_toList] at hj
                                        rw [Array.append_assoc, Array.getElem?_append, if_neg (by omega), hDs, Array.getElem?_append, if_pos (by omega), Array.getElem?_toList]
                                        congr 1; omega)
                                      (by simp only [Array.size_append, hDs, zeroCells_size, hzs, Array.length_toList]; omega)
                                    refine ⟨_, _, φ', hrun, ?_, g2, g3⟩
                                    have := conc_slice_mk (φ := φ') (a := ⟨H.next, 0, none⟩) (A := ⟨w.heap.size, 0, none⟩) (n := len + n) (c := BIG + (len + n)) g1 (by unfold concA; simp [g1])
                                    rw [this, if_neg (by omega)]
                                    congr 2; simp; omega
                              · cases h
                            · cases h
                          · cases h
                      · cases h
                  · cases h
    · cases h
  · cases h
end
end Ev
end Go.Proofs.YtifoekadjnlhcaaGreatDoor
noncomputable section
namespace Go.Proofs.YtifoekadjnlhcaaGreatDoor
open Go.RowKit
set_option linter.unusedVariables false
set_option linter.unusedSimpArgs false
namespace Ev
def putKV (es : List (Value × Value × Nat)) (i : Nat) (k v : Value) : List (Value × Value × Nat) := es.modify i fun e => (k, v, e.2.2)
def mapSetV (P : Program) (H : Heap) (t : TypeId) (m k v : Value) : Option (Value × Heap) :=
  match P.underlying t, m with
  | some (.map key _), .map (some r) =>
    if plainV k && keyOk P 4 key k then
      match H.get r with
      | some (.map es clock) => match findV P key k es 0 with
        | some (some (i, _)) => match es[i]? with
          | some e => if plainV e.1 && Instr.sameBits 10000 e.1 k then (H.set r (some (.map (putKV es i k v) clock))).map fun H' => (undef, H') else none
          | none => none
        | some none => (H.set r (some (.map (es ++ [(k, v, clock)]) (clock + 1)))).map fun H' => (undef, H')
        | none => none
      | _ => none
    else none
  | _, _ => none
def deleteV (P : Program) (H : Heap) (ts : List TypeId) (m k : Value) : Option (Value × Heap) :=
  match ts with
  | t :: _ => match P.underlying t, m with
    | some (.map key _), .map (some r) =>
      if plainV k && keyOk P 4 key k then
        match H.get r with
        | some (.map es clock) => match findV P key k es 0 with
          | some (some (i, _)) => (H.set r (some (.map (es.eraseIdx i) clock))).map fun H' => (.tuple ⟨[]⟩, H')
          | some none => some (.tuple ⟨[]⟩, H)
          | none => none
        | _ => none
      else none
    | _, _ => none
  | [] => none
def rangeV (P : Program) (H : Heap) (t : TypeId) (x : Value) : Option (Value × Heap) :=
  match P.underlying t, x with
  | some .string, .string s => (H.add (.siter s 0)).map fun H' => (.pointer (some ⟨H.next, 0, none⟩), H')
  | some (.map _ _), .map none => (H.add (.miter none 0 [] 0)).map fun H' => (.pointer (some ⟨H.next, 0, none⟩), H')
  | some (.map _ _), .map (some r) => match H.get r with
    | some (.map _ clock) => (H.add (.miter (some r) clock [] clock)).map fun H' => (.pointer (some ⟨H.next, 0, none⟩), H')
    | _ => none
  | _, _ => none
def nextV (H : Heap) (it : Value) (isString : Bool) : Option (Value × Heap) :=
  match it with
  | .pointer (some ⟨r, 0, none⟩) => match H.get r, isString with
    | some (.siter s pos), true =>
      if pos < s.size then (H.set r (some (.siter s (pos + (Utf8.decode s pos).2)))).map fun H' => (.tuple ⟨[.bool true, goInt pos, .int .i32 (Utf8.decode s pos).1]⟩, H')
      else some (.tuple ⟨[.bool false]⟩, H)
    | some (.miter none _ _ _), false => some (.tuple ⟨[.bool false]⟩, H)
    | some (.miter (some m) since seen last), false => match H.get m with
      | some (.map es clock) =>
        if !seen.isEmpty && !es.isEmpty && es.all (fun e => decide (e.2.2 ≥ last)) then none
        else match es.filter (fun e => !seen.contains e.2.2) with
          | [] => some (.tuple ⟨[.bool false]⟩, H)
          | [e] => if e.2.2 < since then (H.set r (some (.miter (some m) since (seen ++ [e.2.2]) clock))).map fun H' => (.tuple ⟨[.bool true, e.1, e.2.1]⟩, H') else none
          | _ => none
      | _ => none
    | _, _ => none
  | _ => none
section
variable {P : Program} {φ : Phi} {H H' : Heap} {w : World}
def setW (w : World) (b : Nat) (c : Obj) : World := { w with heap := w.heap.setIfInBounds b c }
theorem setObj_run {b : Nat} {c c' : Obj} (h : w.heap[b]? = some c) (hc : ∀ x y z, c ≠ .cells x y z) : (setObj b c').run P w = .ok () (setW w b c') := by
  unfold setObj
  simp only [Sem.run, h]
  cases c <;> first | rfl | (exact absurd rfl (hc _ _ _))
theorem Rel.setObj {id : Nat} {o o' : AObj} {B : Blk} {c' : Obj} (h : Rel φ H w) (hg : H.get id = some o) (hm : o.mate = none) (hB : φ.at_ id = some B) (hs : H.set id (some o') = some H') (hm' : o'.mate = none) (hc : objIs φ o' B c') :
    Rel φ H' (setW w B.blk c') ∧ Step φ H w φ H' (setW w B.blk c') := by
  have hget : ∀ m, H'.get m = if m = id then some o' else H.get m := Heap.set_get hs
  have hlt := (h.dom id B hB).2
  have hold : ∀ j p C, j ≠ id → H'.get j = some p → φ.at_ j = some C → H.get j = some p ∧ C.blk ≠ B.blk := fun j p C hj hgj hC => by
    rw [hget, if_neg hj] at hgj
    refine ⟨hgj, fun e => ?_⟩
    rcases h.alias id j _ _ B C hg hgj hB hC e.symm with e | e
    · exact hj e.symm
    · rw [hm] at e; cases e
  refine ⟨⟨fun j p C hgj hC => ?_, fun j C hC => ?_, fun i j p q B1 C1 hi hj bi bj he => ?_⟩, ⟨Phi.le_refl φ, fun _ _ h => .inl h, by simp [setW], fun b hb hn => ?_, fun b hb ho => ?_, by rw [Heap.set_next hs]; exact Nat.le_refl _, rfl, rfl, rfl⟩⟩
  · by_cases hj : j = id
    · subst hj
      rw [hB] at hC; cases hC
      rw [hget, if_pos rfl] at hgj; cases hgj
      exact ⟨c', by simp [setW, hlt], hc⟩
    · obtain ⟨h1, h2⟩ := hold j p C hj hgj hC
      obtain ⟨c, h3, h4⟩ := h.objs j p C h1 hC
      exact ⟨c, by simp only [setW]; rw [Array.getElem?_setIfInBounds_ne (fun e => h2 e.symm)]; exact h3, h4⟩
  · rw [Heap.set_next hs]; simpa [setW] using h.dom j C hC
  · by_cases h1 : i = id
    · by_cases h2 : j = id
      · exact .inl (h1.trans h2.symm)
      · subst h1; rw [hB] at bi; cases bi
        exact absurd he.symm (hold j q C1 h2 hj bj).2
    · by_cases h2 : j = id
      · subst h2; rw [hB] at bj; cases bj
        exact absurd he (hold i p B1 h1 hi bi).2
      · exact h.alias i j p q B1 C1 (hold i p B1 h1 hi bi).1 (hold j q C1 h2 hj bj).1 bi bj he
  · simp only [setW]; exact Array.getElem?_setIfInBounds_ne (fun e => hn ⟨id, o, B, hg, hB, e⟩)
  · obtain ⟨j, p, C, h1, h2, h3⟩ := ho
    by_cases hj : j = id
    · subst hj; rw [hB] at h2; cases h2; exact ⟨j, o, B, hg, hB, h3⟩
    · exact ⟨j, p, C, (hold j p C hj h1 h2).1, h2, h3⟩
theorem getObj_run {b : Nat} {c : Obj} (h : w.heap[b]? = some c) (hc : ∀ x y z, c ≠ .cells x y z) : (getObj b).run P w = .ok c w := by
  unfold getObj
  cases c <;> first | (exact absurd rfl (hc _ _ _)) | (simp only [Sem.run, h])
theorem mapSetV_ok {t : TypeId} {m k v u M K V : Value} (hR : Rel φ H w) (h : mapSetV P H t m k v = some (u, H')) (hm : conc φ m = some M) (hk : conc φ k = some K) (hv : conc φ v = some V) :
    ∃ w', (Instr.mapUpdate t M K V).run P w = .ok () w' ∧ u = undef ∧ Rel φ H' w' ∧ Step φ H w φ H' w' := by
  unfold mapSetV at h
  split at h
  · next key e r hu =>
    split at h
    · next hkk =>
      have hkk' := hkk
      simp only [Bool.and_eq_true] at hkk'
      rw [conc_plainV hkk'.1] at hk; cases hk
      have hk : conc φ k = some k := conc_plainV hkk'.1
      obtain ⟨B, hB, rfl⟩ := conc_map hm
      split at h
      · next es clock hg =>
        obtain ⟨c, hc, en, rfl, hsz, hall⟩ := hR.objs _ _ _ hg hB
        have start : ∀ (R : Option (Nat × Value)), (Instr.findKey key k en.toList).run P w = .ok R w → (Instr.mapUpdate t (.map (some B.blk)) k V).run P w = (match R with
            | some (i, _) => do
              let key ← Instr.keyThatStays (((en[i]?).map (·.key)).getD k) k
              Go.setObj B.blk (.map (en.modify i fun e => { e with key, val := V }) clock)
            | none => Go.setObj B.blk (.map (en.push { key := k, val := V, born := clock }) (clock + 1)) : Sem Unit).run P w := by
          intro R hf
          unfold Instr.mapUpdate
          rw [bind_ok (underlying_run hu)]
          simp only []
          rw [bind_ok (getObj_run hc (by simp))]
          simp only []
          rw [bind_ok (keyOk_run 4 10000 key k hkk'.1 hkk'.2 (by omega) w), bind_ok hf]
          cases R <;> rfl
        split at h
        · next i x hf =>
          obtain ⟨R, g1, g2⟩ := findKey_run (w := w) hkk hsz hall hf
          obtain ⟨V0, mm, rfl, _, g3, _⟩ := g2
          split at h
          · next e0 he0 =>
            split at h
            · next hsb =>
              simp only [Bool.and_eq_true] at hsb
              cases hst : H.set r (some (.map (putKV es i k v) clock)) with
              | none => rw [hst] at h; cases h
              | some H1 =>
                rw [hst] at h; cases h
                obtain ⟨mm', g4, g5, g6, g7⟩ := hall i e0 he0
                rw [g3] at g4; cases g4
                rw [conc_plainV hsb.1] at g5
                have hkey : mm.key = e0.1 := (Option.some.inj g5).symm
                have hob : objIs φ (.map (putKV es i k v) clock) B (.map (en.modify i fun e => { e with key := k, val := V }) clock) := by
                  refine ⟨_, rfl, by simp [putKV, hsz], fun j e1 hj => ?_⟩
                  unfold putKV at hj
                  rw [List.getElem?_modify] at hj
                  rw [Array.getElem?_modify]
                  by_cases hij : i = j
                  · subst hij
                    rw [he0] at hj
                    simp at hj; subst hj
                    rw [if_pos rfl, g3]
                    exact ⟨_, rfl, hk, hv, g7⟩
                  · rw [if_neg hij]
                    simp only [hij, if_false] at hj
                    cases hej : es[j]? with
                    | none => rw [hej] at hj; cases hj
                    | some e2 => rw [hej] at hj; simp at hj; subst hj; exact hall j e2 hej
                obtain ⟨k1, k2⟩ := hR.setObj hg rfl hB hst rfl hob
                refine ⟨_, ?_, rfl, k1, k2⟩
                rw [start _ g1]
                simp only [g3, Option.map_some, Option.getD_some]
                have ek : (Instr.keyThatStays mm.key k).run P w = .ok k w := by
                  unfold Instr.keyThatStays; rw [hkey, if_pos hsb.2]; rfl
                rw [bind_ok ek]
                exact setObj_run hc (by simp)
            · cases h
          · cases h
        · next hf =>
          obtain ⟨R, g1, g2⟩ := findKey_run (w := w) hkk hsz hall hf
          simp only at g2; subst g2
          cases hst : H.set r (some (.map (es ++ [(k, v, clock)]) (clock + 1))) with
          | none => rw [hst] at h; cases h
          | some H1 =>
            rw [hst] at h; cases h
            have hob : objIs φ (.map (es ++ [(k, v, clock)]) (clock + 1)) B (.map (en.push { key := k, val := V, born := clock }) (clock + 1)) := by
              refine ⟨_, rfl, by simp [hsz], fun j e1 hj => ?_⟩
              rw [List.getElem?_append] at hj
              rw [Array.getElem?_push]
              split at hj
              · next hlt => rw [if_neg (by omega)]; exact hall j e1 hj
              · next hge =>
                have hj0 : j - es.length = 0 := by
                  have := (List.getElem?_eq_some_iff.1 hj).1
                  simp at this; omega
                rw [hj0] at hj; simp at hj; subst hj
                rw [if_pos (by omega)]
                exact ⟨_, rfl, hk, hv, rfl⟩
            obtain ⟨k1, k2⟩ := hR.setObj hg rfl hB hst rfl hob
            refine ⟨_, ?_, rfl, k1, k2⟩
            rw [start _ g1]
            exact setObj_run hc (by simp)
        · cases h
      · cases h
    · cases h
  · cases h
theorem deleteV_ok {ts : Array TypeId} {ty : TypeId} {m k u M K : Value} (hR : Rel φ H w) (h : deleteV P H ts.toList m k = some (u, H')) (hm : conc φ m = some M) (hk : conc φ k = some K) :
    Does P φ H w (Builtin.delete_ ts ty #[M, K]) u H' := by
  unfold deleteV at h
  split at h
  · next t tl hts =>
    have h0 : ts[0]? = some t := by rw [← Array.getElem?_toList, hts]; rfl
    split at h
    · next key e r hu =>
      split at h
      · next hkk =>
        have hkk' := hkk
        simp only [Bool.and_eq_true] at hkk'
        rw [conc_plainV hkk'.1] at hk; cases hk
        obtain ⟨B, hB, rfl⟩ := conc_map hm
        split at h
        · next es clock hg =>
          obtain ⟨c, hc, en, rfl, hsz, hall⟩ := hR.objs _ _ _ hg hB
          have start : ∀ (R : Option (Nat × Value)), (Instr.findKey key k en.toList).run P w = .ok R w → (Builtin.delete_ ts ty #[.map (some B.blk), k]).run P w = (do
              match R with
              | some (i, _) => Go.setObj B.blk (.map (en.eraseIdxIfInBounds i) clock)
              | none => Go.setObj B.blk (.map en clock)
              pure (.tuple #[]) : Sem Value).run P w := by
            intro R hf
            unfold Builtin.delete_
            simp only [h0]
            show (Sem.bind (underlying t) _).run P w = _
            refine (bind_ok (underlying_run hu)).trans ?_
            simp only []
            refine (bind_ok (getObj_run hc (by simp))).trans ?_
            simp only []
            refine (bind_ok (keyOk_run 4 10000 key k hkk'.1 hkk'.2 (by omega) w)).trans ?_
            refine (bind_ok hf).trans ?_
            cases R <;> rfl
          split at h
          · next i x hf =>
            obtain ⟨R, g1, g2⟩ := findKey_run (w := w) hkk hsz hall hf
            obtain ⟨V0, mm, rfl, _, g3, _⟩ := g2
            cases hst : H.set r (some (.map (es.eraseIdx i) clock)) with
            | none => rw [hst] at h; cases h
            | some H1 =>
              rw [hst] at h; cases h
              have hil : i < en.size := (Array.getElem?_eq_some_iff.1 g3).1
              have hob : objIs φ (.map (es.eraseIdx i) clock) B (.map (en.eraseIdxIfInBounds i) clock) := by
                refine ⟨_, rfl, by unfold Array.eraseIdxIfInBounds; rw [dif_pos hil, Array.size_eraseIdx, List.length_eraseIdx, if_pos (by omega), hsz], fun j e1 hj => ?_⟩
                rw [List.getElem?_eraseIdx] at hj
                have : (en.eraseIdxIfInBounds i)[j]? = if j < i then en[j]? else en[j + 1]? := by
                  unfold Array.eraseIdxIfInBounds
                  rw [dif_pos hil, Array.getElem?_eraseIdx]
                rw [this]
                split at hj
                · next hlt => rw [if_pos hlt]; exact hall j e1 hj
                · next hge => rw [if_neg hge]; exact hall (j + 1) e1 hj
              obtain ⟨k1, k2⟩ := hR.setObj hg rfl hB hst rfl hob
              refine ⟨_, _, φ, ?_, rfl, k1, k2⟩
              rw [start _ g1]
              simp only []
              rw [bind_ok (setObj_run hc (by simp))]; rfl
          · next hf =>
            cases h
            obtain ⟨R, g1, g2⟩ := findKey_run (w := w) hkk hsz hall hf
            simp only at g2; subst g2
            refine ⟨_, w, φ, ?_, rfl, hR, Step.refl _ _ _⟩
            rw [start _ g1]
            simp only []
            rw [bind_ok (setObj_run hc (by simp))]
            have : setW w B.blk (.map en clock) = w := by
              unfold setW
              have e : w.heap.setIfInBounds B.blk (.map en clock) = w.heap := by
                apply Array.ext_getElem?
                intro j
                by_cases hj : B.blk = j
                · subst hj; rw [Array.getElem?_setIfInBounds_self, hc, if_pos (hR.dom _ _ hB).2]
                · rw [Array.getElem?_setIfInBounds_ne hj]
              rw [e]
            rw [this]; rfl
          · cases h
        · cases h
      · cases h
    · cases h
  · cases h
end
end Ev
end Go.Proofs.YtifoekadjnlhcaaGreatDoor
noncomputable section
namespace Go.Proofs.YtifoekadjnlhcaaGreatDoor
open Go.RowKit
set_option linter.unusedVariables false
set_option linter.unusedSimpArgs false
namespace Ev
def entryV (H : Heap) (it : Value) : Option Value :=
  match it with
  | .pointer (some ⟨r, 0, none⟩) => match H.get r with
    | some (.miter (some m) _ seen stepped) => match seen.getLast?, H.get m with
      | some stamp, some (.map es clock) => if clock = stepped then (match es.find? (fun e => e.2.2 == stamp) with | some e => some (.tuple ⟨[e.1, e.2.1]⟩) | none => none) else none
      | _, _ => none
    | _ => none
  | _ => none
def copyV (P : Program) (H : Heap) (ts : List TypeId) (d x : Value) : Option (Value × Heap) :=
  match ts with
  | t0 :: _ => match P.underlying t0 with
    | some (.slice e) => match tSize P e with
      | some es => match d, x with
        | .slice none dl _, .slice none n _ => if dl = 0 then some (goInt 0, H) else none
        | .slice none dl _, .slice (some a) n _ => if dl = 0 then some (goInt 0, H) else none
        | .slice none dl _, .string s => if dl = 0 then some (goInt 0, H) else none
        | .slice (some a) dl _, .slice none n _ => if n = 0 then some (goInt 0, H) else none
        | .slice (some a) dl _, .slice (some b) n _ =>
          if min n dl = 0 then some (goInt 0, H) else
          match a.spot, b.spot, H.load b.block b.off (min n dl * es) with
          | none, none, some vs => if vs.all oneCell then (H.store a.block a.off vs).map fun H' => (goInt ((min n dl : Nat) : Int), H') else none
          | _, _, _ => none
        | .slice (some a) dl _, .string s =>
          if min s.size dl = 0 then some (goInt 0, H) else
          match a.spot with
          | none => if es = 1 then (H.store a.block a.off ((bytesOf s).take (min s.size dl))).map fun H' => (goInt ((min s.size dl : Nat) : Int), H') else none
          | _ => none
        | _, _ => none
      | none => none
    | _ => none
  | [] => none
def clearV (P : Program) (H : Heap) (ts : List TypeId) (x : Value) : Option (Value × Heap) :=
  match ts with
  | t0 :: _ => match P.underlying t0, x with
    | some (.slice e), .slice (some a) n _ =>
      if n = 0 then some (.tuple ⟨[]⟩, H) else
      match (P.info? e).bind (·.zero), a.spot with
      | some z, none => if (cellsL z).all plainS ∧ 0 < (cellsL z).length then (H.store a.block a.off (copies n (cellsL z))).map fun H' => (.tuple ⟨[]⟩, H') else none
      | _, _ => none
    | some (.slice _), .slice none _ _ => some (.tuple ⟨[]⟩, H)
    | some (.map _ _), .map none => some (.tuple ⟨[]⟩, H)
    | some (.map _ _), .map (some r) => match H.get r with
      | some (.map _ clock) => (H.set r (some (.map [] clock))).map fun H' => (.tuple ⟨[]⟩, H')
      | _ => none
    | _, _ => none
  | [] => none
section
variable {P : Program} {φ : Phi} {H H' : Heap} {w : World}
theorem rangeV_ok {t : TypeId} {x v X : Value} (hR : Rel φ H w) (h : rangeV P H t x = some (v, H')) (hx : conc φ x = some X) : Does P φ H w (Instr.range t X) v H' := by
  have fin : ∀ (o : AObj) (c : Obj), objIs φ o ⟨w.heap.size, 0, 0⟩ c → ∀ H1, H.add o = some H1 → (∀ (s : Sem Obj), s.run P w = .ok c w → Does P φ H w (do let it ← s; pure (.pointer (some ⟨← newObj it, 0, none⟩))) (.pointer (some ⟨H.next, 0, none⟩)) H1) := by
    intro o c ho H1 ha s hs
    obtain ⟨φ', g1, g2, g3⟩ := new_block (n := w.drawn) hR ha ho
    refine ⟨.pointer (some ⟨w.heap.size, 0, none⟩), _, φ', ?_, ptr_val g1, g2, g3⟩
    rw [bind_ok hs, bind_ok (newObj_run _ w)]; rfl
  unfold rangeV at h
  split at h
  · next s hu =>
    cases ha : H.add (.siter s 0) with
    | none => rw [ha] at h; cases h
    | some H1 =>
      rw [ha] at h; cases h
      simp [conc] at hx; subst hx
      have := fin (.siter s 0) (.stringIter s 0) ⟨rfl, rfl⟩ H' ha (pure (.stringIter s 0)) rfl
      obtain ⟨V, w', φ', k1, k2⟩ := this
      refine ⟨V, w', φ', ?_, k2⟩
      unfold Instr.range
      rw [bind_ok (underlying_run hu)]
      exact k1
  · next k e hu =>
    cases ha : H.add (.miter none 0 [] 0) with
    | none => rw [ha] at h; cases h
    | some H1 =>
      rw [ha] at h; cases h
      simp [conc] at hx; subst hx
      have := fin (.miter none 0 [] 0) (.mapIter none 0 #[] 0) ⟨rfl, rfl⟩ H' ha (pure (.mapIter none 0 #[] 0)) rfl
      obtain ⟨V, w', φ', k1, k2⟩ := this
      refine ⟨V, w', φ', ?_, k2⟩
      unfold Instr.range
      rw [bind_ok (underlying_run hu)]
      exact k1
  · next k e r hu =>
    split at h
    · next es clock hg =>
      cases ha : H.add (.miter (some r) clock [] clock) with
      | none => rw [ha] at h; cases h
      | some H1 =>
        rw [ha] at h; cases h
        obtain ⟨B, hB, rfl⟩ := conc_map hx
        obtain ⟨c, hc, en, rfl, hsz, hall⟩ := hR.objs _ _ _ hg hB
        have := fin (.miter (some r) clock [] clock) (.mapIter (some B.blk) clock #[] clock) ⟨rfl, B, hB, rfl⟩ H' ha (pure (.mapIter (some B.blk) clock #[] clock)) rfl
        obtain ⟨V, w', φ', k1, k2⟩ := this
        refine ⟨V, w', φ', ?_, k2⟩
        unfold Instr.range
        rw [bind_ok (underlying_run hu)]
        simp only []
        rw [bind_ok (getObj_run hc (by simp))]
        exact k1
    · cases h
  · cases h
inductive All2 {α β : Type} (R : α → β → Prop) : List α → List β → Prop where
  | nil : All2 R [] []
  | cons {a : α} {b : β} {l : List α} {m : List β} (h : R a b) (t : All2 R l m) : All2 R (a :: l) (b :: m)
theorem ent_forall {es : List (Value × Value × Nat)} {en : List MapEntry} (hl : en.length = es.length) (h : ∀ (i : Nat) e, es[i]? = some e → ∃ m, en[i]? = some m ∧ entIn φ e m) : All2 (entIn φ) es en := by
  induction es generalizing en with
  | nil => cases en with
    | nil => exact .nil
    | cons => simp at hl
  | cons e es ih =>
    cases en with
    | nil => simp at hl
    | cons m en =>
      obtain ⟨m', h1, h2⟩ := h 0 e rfl
      simp at h1; subst h1
      exact .cons h2 (ih (by simpa using hl) fun i e' he => by simpa using h (i + 1) e' (by simpa using he))
theorem filter_forall {p : Nat → Bool} {es : List (Value × Value × Nat)} {en : List MapEntry} (h : All2 (entIn φ) es en) : All2 (entIn φ) (es.filter fun e => p e.2.2) (en.filter fun m => p m.born) := by
  induction h with
  | nil => exact .nil
  | @cons e m es en h1 h2 ih =>
    simp only [List.filter_cons, h1.2.2]
    split
    · exact .cons h1 ih
    · exact ih
theorem all_forall {p : Nat → Bool} {es : List (Value × Value × Nat)} {en : List MapEntry} (h : All2 (entIn φ) es en) : (es.all fun e => p e.2.2) = en.all fun m => p m.born := by
  induction h with
  | nil => rfl
  | @cons e m es en h1 h2 ih => simp only [List.all_cons, h1.2.2, ih]
theorem find_forall {p : Nat → Bool} {es : List (Value × Value × Nat)} {en : List MapEntry} (h : All2 (entIn φ) es en) {e : Value × Value × Nat} (hf : (es.find? fun e => p e.2.2) = some e) : ∃ m, (en.find? fun m => p m.born) = some m ∧ entIn φ e m := by
  induction h with
  | nil => simp at hf
  | @cons e1 m es en h1 h2 ih =>
    simp only [List.find?_cons, h1.2.2] at hf ⊢
    split at hf
    · next hp => cases hf; exact ⟨m, rfl, h1⟩
    · next hp => exact ih hf
theorem iter_at {r : Nat} {o : AObj} {X : Value} (hR : Rel φ H w) (hg : H.get r = some o) (hx : conc φ (.pointer (some ⟨r, 0, none⟩)) = some X) (h0 : ∀ B c, objIs φ o B c → B.base = 0) :
    ∃ B c, φ.at_ r = some B ∧ X = .pointer (some ⟨B.blk, 0, none⟩) ∧ w.heap[B.blk]? = some c ∧ objIs φ o B c := by
  obtain ⟨hs, A, hA, rfl⟩ := conc_ptr hx
  obtain ⟨B, hB, rfl⟩ := concA_none hs hA
  obtain ⟨c, hc, ho⟩ := hR.objs _ _ _ hg hB
  exact ⟨B, c, hB, by rw [h0 B c ho]; rfl, hc, ho⟩
theorem nextV_ok {it v X : Value} {b : Bool} {ty : TypeId} (hR : Rel φ H w) (h : nextV H it b = some (v, H')) (hx : conc φ it = some X) : Does P φ H w (Instr.next X b ty) v H' := by
  unfold nextV at h
  split at h
  · next r =>
    split at h
    · next s pos hg =>
      obtain ⟨B, c, hB, rfl, hc, ho⟩ := iter_at hR hg hx (fun B c h => h.1)
      obtain ⟨_, rfl⟩ := ho
      have start : (Instr.next (.pointer (some ⟨B.blk, 0, none⟩)) true ty).run P w = (if pos < s.size then (do
          setObj B.blk (.stringIter s (pos + (Utf8.decode s pos).2))
          pure (.tuple #[.bool true, goInt pos, .int .i32 (Utf8.decode s pos).1])) else pure (.tuple #[.bool false]) : Sem Value).run P w := by
        unfold Instr.next
        simp only []
        rw [bind_ok (getObj_run hc (by simp))]
      split at h
      · next hlt =>
        cases hst : H.set r (some (.siter s (pos + (Utf8.decode s pos).2))) with
        | none => rw [hst] at h; cases h
        | some H1 =>
          rw [hst] at h; cases h
          obtain ⟨k1, k2⟩ := hR.setObj hg rfl hB hst rfl (c' := .stringIter s (pos + (Utf8.decode s pos).2)) ⟨(by assumption), rfl⟩
          refine ⟨.tuple #[.bool true, goInt pos, .int .i32 (Utf8.decode s pos).1], _, φ, ?_, rfl, k1, k2⟩
          rw [start, if_pos hlt, bind_ok (setObj_run hc (by simp))]; rfl
      · next hge =>
        cases h
        exact ⟨.tuple #[.bool false], w, φ, by rw [start, if_neg hge]; rfl, rfl, hR, Step.refl _ _ _⟩
    · next since seen last hg =>
      cases h
      obtain ⟨B, c, hB, rfl, hc, ho⟩ := iter_at hR hg hx (fun B c h => h.1)
      obtain ⟨_, rfl⟩ := ho
      refine ⟨.tuple #[.bool false], w, φ, ?_, rfl, hR, Step.refl _ _ _⟩
      unfold Instr.next
      simp only []
      rw [bind_ok (getObj_run hc (by simp))]; rfl
    · next m since seen last hg =>
      split at h
      · next es clock hgm =>
        obtain ⟨B, c, hB, rfl, hc, ho⟩ := iter_at hR hg hx (fun B c h => h.1)
        obtain ⟨hb0, M, hM, rfl⟩ := ho
        obtain ⟨cm, hcm, en, rfl, hsz, hall⟩ := hR.objs _ _ _ hgm hM
        have hfa := ent_forall (φ := φ) (es := es) (en := en.toList) (by simpa using hsz) (fun i e he => by simpa using hall i e he)
        split at h
        · cases h
        · next hgd =>
          have e1 : (es.all fun e => decide (e.2.2 ≥ last)) = en.all fun e => decide (e.born ≥ last) := by
            rw [all_forall (p := fun b => decide (b ≥ last)) hfa, Array.all_toList]
          have e2 : es.isEmpty = en.isEmpty := by
            cases es with
            | nil => cases en using Array.recOn with | mk l => cases l <;> simp at hsz ⊢
            | cons a es => cases en using Array.recOn with | mk l => cases l <;> simp at hsz ⊢
          have e3 : seen.isEmpty = seen.toArray.isEmpty := by simp
          rw [e1, e2, e3] at hgd
          have start : (Instr.next (.pointer (some ⟨B.blk, 0, none⟩)) false ty).run P w = (do
              let left := en.filter fun e => !seen.toArray.contains e.born
              let old := left.filter (·.born < since)
              let new := left.filter (·.born ≥ since)
              let candidates := (if old.isEmpty then #[none] else #[]) ++ (old ++ new).map some
              match candidates[← choose (.mapNext candidates.size)]? with
              | some (some e) =>
                setObj B.blk (.mapIter (some M.blk) since (seen.toArray.push e.born) clock)
                pure (.tuple #[.bool true, e.key, e.val])
              | some none => pure (.tuple #[.bool false])
              | none => stuck "Next: no such candidate" : Sem Value).run P w := by
            unfold Instr.next
            simp only []
            rw [bind_ok (getObj_run hc (by simp))]
            simp only []
            rw [bind_ok (getObj_run hcm (by simp))]
            simp only []
            rw [if_neg hgd]; rfl
          have hff := filter_forall (p := fun b => !seen.contains b) hfa
          have e4 : (en.filter fun e => !seen.toArray.contains e.born).toList = en.toList.filter fun e => !seen.contains e.born := by rw [Array.toList_filter]; simp
          split at h
          · next hnil =>
            cases h
            rw [hnil] at hff
            have e5 : (en.filter fun e => !seen.toArray.contains e.born) = #[] := by
              apply Array.toList_inj.1; rw [e4]
              cases hq : en.toList.filter (fun e => !seen.contains e.born) with
              | nil => rfl
              | cons a b => rw [hq] at hff; cases hff
            refine ⟨.tuple #[.bool false], w, φ, ?_, rfl, hR, Step.refl _ _ _⟩
            rw [start]
            have f0 : ∀ f : MapEntry → Bool, (#[] : Array MapEntry).filter f = #[] := fun f => by apply Array.toList_inj.1; simp [Array.toList_filter]
            have fc : ((if (#[] : Array MapEntry).isEmpty = true then #[none] else #[]) ++ (#[] ++ #[] : Array MapEntry).map some) = #[none] := by apply Array.toList_inj.1; simp
            simp only [e5, f0, fc]
            have ec : (choose (.mapNext (#[none] : Array (Option MapEntry)).size)).run P w = .ok 0 w := rfl
            exact (bind_ok ec).trans rfl
          · next e he =>
            rw [he] at hff
            split at h
            · next hsin =>
              cases hst : H.set r (some (.miter (some m) since (seen ++ [e.2.2]) clock)) with
              | none => rw [hst] at h; cases h
              | some H1 =>
                rw [hst] at h; cases h
                obtain ⟨mm, hmm, hle⟩ : ∃ mm, (en.filter fun e => !seen.toArray.contains e.born) = #[mm] ∧ entIn φ e mm := by
                  cases hq : en.toList.filter (fun e => !seen.contains e.born) with
                  | nil => rw [hq] at hff; cases hff
                  | cons mm rest =>
                    rw [hq] at hff
                    cases hff with
                    | cons h1 h2 => cases h2; exact ⟨mm, by apply Array.toList_inj.1; rw [e4, hq], h1⟩
                obtain ⟨q1, q2, q3⟩ := hle
                obtain ⟨k1, k2⟩ := hR.setObj hg rfl hB hst rfl (c' := .mapIter (some M.blk) since (seen.toArray.push mm.born) clock) ⟨hb0, M, hM, by rw [q3]; simp⟩
                refine ⟨.tuple #[.bool true, mm.key, mm.val], _, φ, ?_, by simp [conc, concL, q1, q2], k1, k2⟩
                rw [start]
                have hlt : (mm.born < since) = True := by rw [← q3]; exact eq_true hsin
                have hge : (mm.born ≥ since) = False := eq_false (by rw [← q3]; omega)
                simp only [hmm]
                have f1 : #[mm].filter (fun e => decide (e.born < since)) = #[mm] := by apply Array.toList_inj.1; simp [Array.toList_filter, hlt]
                have f2 : #[mm].filter (fun e => decide (e.born ≥ since)) = #[] := by apply Array.toList_inj.1; simp [Array.toList_filter]; rw [← q3]; omega
                have fc : ((if (#[mm] : Array MapEntry).isEmpty = true then #[none] else #[]) ++ (#[mm] ++ #[] : Array MapEntry).map some) = #[some mm] := by apply Array.toList_inj.1; simp
                simp only [f1, f2, fc]
                have ec : (choose (.mapNext (#[some mm] : Array (Option MapEntry)).size)).run P w = .ok 0 w := rfl
                refine (bind_ok ec).trans ?_
                exact (bind_ok (setObj_run hc (by simp))).trans rfl
            · cases h
          · cases h
      · cases h
    · cases h
  · cases h
end
end Ev
end Go.Proofs.YtifoekadjnlhcaaGreatDoor
noncomputable section
namespace Go.Proofs.YtifoekadjnlhcaaGreatDoor
open Go.RowKit
set_option linter.unusedVariables false
set_option linter.unusedSimpArgs false
namespace Ev
def evRd (P : Program) (ρ : Operand → Option Value) (H : Heap) (op : Op) : Option Value :=
  match op with
  | .entry x => match ρ x with | some v => entryV H v | none => none
  | op => evR P ρ H op
def callE (P : Program) (H : Heap) (b : Builtin) (ts : List TypeId) (vs : List Value) : Option (Value × Heap) :=
  match b, vs with
  | .append, [s, x] => appendV P H ts s x
  | .copy, [d, x] => copyV P H ts d x
  | .clear, [x] => clearV P H ts x
  | .delete, [m, k] => deleteV P H ts m k
  | _, _ => none
def evE (P : Program) (ρ : Operand → Option Value) (H : Heap) (op : Op) : Option (Value × Heap) :=
  match op with
  | .store t a x => match ρ a, ρ x with
    | some a, some x => storeV P H t a x
    | _, _ => none
  | .mapUpdate t m k x => match ρ m, ρ k, ρ x with
    | some m, some k, some x => mapSetV P H t m k x
    | _, _, _ => none
  | .insert t m k x => match ρ m, ρ k, ρ x with
    | some m, some k, some x => mapSetV P H t m k x
    | _, _, _ => none
  | .range t x => match ρ x with | some x => rangeV P H t x | none => none
  | .next it b => match ρ it with | some x => nextV H x b | none => none
  | .call c => match c.callee with
    | .builtin b => match valsV ρ c.args.toList with | some vs => callE P H b c.argTypes.toList vs | none => none
    | _ => none
  | _ => none
section
variable {P : Program} {φ : Phi} {H H' : Heap} {w : World} {ρ : Operand → Option Value} {ev : Operand → Value}
theorem entryV_ok {it v X : Value} (hR : Rel φ H w) (h : entryV H it = some v) (hx : conc φ it = some X) : ∃ V, conc φ v = some V ∧ (Instr.entry X).run P w = .ok V w := by
  unfold entryV at h
  split at h
  · next r =>
    split at h
    · next m since seen stepped hg =>
      split at h
      · next stamp es clock hl hgm =>
        split at h
        · next hcl =>
          split at h
          · next e hf =>
            cases h
            obtain ⟨B, c, hB, rfl, hc, ho⟩ := iter_at hR hg hx (fun B c h => h.1)
            obtain ⟨hb0, M, hM, rfl⟩ := ho
            obtain ⟨cm, hcm, en, rfl, hsz, hall⟩ := hR.objs _ _ _ hgm hM
            have hfa := ent_forall (φ := φ) (es := es) (en := en.toList) (by simpa using hsz) (fun i e he => by simpa using hall i e he)
            obtain ⟨mm, g1, g2, g3, g4⟩ := find_forall (p := fun b => b == stamp) hfa hf
            refine ⟨.tuple #[mm.key, mm.val], by simp [conc, concL, g2, g3], ?_⟩
            unfold Instr.entry
            simp only []
            rw [bind_ok (getObj_run hc (by simp))]
            have hb : seen.toArray.back? = some stamp := by simpa using hl
            simp only [hb]
            rw [bind_ok (getObj_run hcm (by simp))]
            have hne : (clock != stepped) = false := by simpa using hcl
            have hfd : en.find? (fun e => e.born == stamp) = some mm := by rw [← Array.find?_toList]; exact g1
            simp only [hne, hfd]
            rfl
          · cases h
        · cases h
      · cases h
    · cases h
  · cases h
def lenA : Value → Option Nat
  | .slice _ n _ => some n
  | .string s => some s.size
  | _ => none
theorem lenOf_run {x X : Value} (hx : conc φ x = some X) : ∀ n, lenA x = some n → (Builtin.lenOf X).run P w = .ok n w := by
  intro n h
  cases x <;> simp [lenA] at h
  case slice a m c =>
    subst h
    cases a with
    | none => simp [conc] at hx; subst hx; rfl
    | some a => obtain ⟨B, A, _, _, rfl⟩ := conc_slice hx; rfl
  case string s => subst h; simp [conc] at hx; subst hx; rfl
theorem copy_start {ts : Array TypeId} {ty t0 e : TypeId} {es n dl c : Nat} {base : Option Addr} {X : Value} (h0 : ts[0]? = some t0) (hu : P.underlying t0 = some (.slice e)) (hs : tSize P e = some es) (hn : (Builtin.lenOf X).run P w = .ok n w) :
    (Builtin.copy_ ts ty #[.slice base dl c, X]).run P w = (do
      let cells ← Builtin.firstCells es (Nat.min n dl) X
      match base with
      | some a => do
        storeCells a cells.toList
        pure (goInt ((Nat.min n dl : Nat) : Int))
      | _ => pure (goInt ((Nat.min n dl : Nat) : Int)) : Sem Value).run P w := by
  unfold Builtin.copy_
  simp only [h0]
  show (Sem.bind (underlying t0) _).run P w = _
  refine (bind_ok (underlying_run hu)).trans ?_
  simp only []
  refine (bind_ok hn).trans ?_
  refine (bind_ok (sizeOf_run hs)).trans ?_
  cases base <;> rfl
theorem first_zero {x X : Value} {es n : Nat} (hx : conc φ x = some X) (hn : lenA x = some n) : ∃ C : Array Value, (Builtin.firstCells es 0 X).run P w = .ok C w ∧ C = #[] := by
  cases x <;> simp [lenA] at hn
  case slice a m c =>
    cases a with
    | none => simp [conc] at hx; subst hx; exact ⟨#[], rfl, rfl⟩
    | some a =>
      obtain ⟨B, A, _, _, rfl⟩ := conc_slice hx
      refine ⟨#[], ?_, rfl⟩
      show (loadCells A (0 * es)).run P w = _
      rw [Nat.zero_mul]; rfl
  case string s =>
    simp [conc] at hx; subst hx
    refine ⟨_, rfl, ?_⟩
    apply Array.toList_inj.1
    simp
theorem copyV_ok {ts : Array TypeId} {ty : TypeId} {d x v D X : Value} (hR : Rel φ H w) (h : copyV P H ts.toList d x = some (v, H')) (hd : conc φ d = some D) (hx : conc φ x = some X) : Does P φ H w (Builtin.copy_ ts ty #[D, X]) v H' := by
  unfold copyV at h
  split at h
  · next t0 tl hts =>
    have h0 : ts[0]? = some t0 := by rw [← Array.getElem?_toList, hts]; rfl
    split at h
    · next e hu =>
      split at h
      · next es hes =>
        have nothing : ∀ (n dl c : Nat) (base : Option Addr), lenA x = some n → Nat.min n dl = 0 → D = .slice base dl c → Does P φ H w (Builtin.copy_ ts ty #[D, X]) (goInt 0) H := by
          intro n dl c base hn hm hD
          obtain ⟨C, g1, g2⟩ := first_zero (P := P) (w := w) (es := es) hx hn
          refine ⟨goInt 0, w, φ, ?_, rfl, hR, Step.refl _ _ _⟩
          rw [hD, copy_start h0 hu hes (lenOf_run hx n hn), hm, bind_ok g1, g2]
          cases base <;> rfl
        split at h
        · next dl c n c2 =>
          split at h
          · next hz => cases h; simp [conc] at hd; subst hd hz; exact nothing n 0 c none rfl (Nat.min_zero _) rfl
          · cases h
        · next dl c a n c2 =>
          split at h
          · next hz => cases h; simp [conc] at hd; subst hd hz; exact nothing n 0 c none rfl (Nat.min_zero _) rfl
          · cases h
        · next dl c s =>
          split at h
          · next hz => cases h; simp [conc] at hd; subst hd hz; exact nothing s.size 0 c none rfl (Nat.min_zero _) rfl
          · cases h
        · next a dl c n c2 =>
          split at h
          · next hz =>
            cases h; subst hz
            obtain ⟨B, A, _, _, rfl⟩ := conc_slice hd
            exact nothing 0 dl _ _ rfl (Nat.zero_min _) rfl
          · cases h
        · next a dl c b n c2 =>
          obtain ⟨B, A, hB, hA, hD⟩ := conc_slice hd
          split at h
          · next hz => cases h; exact nothing n dl _ _ rfl hz hD
          · next hz =>
            split at h
            · next vs hsa hsb hl =>
              split at h
              · next hone =>
                cases hst : H.store a.block a.off vs with
                | none => rw [hst] at h; cases h
                | some H1 =>
                  rw [hst] at h; cases h
                  subst hD
                  obtain ⟨B', hB', rfl⟩ := concA_none hsa hA
                  rw [hB] at hB'; cases hB'
                  obtain ⟨C, A2, hC, hA2, rfl⟩ := conc_slice hx
                  obtain ⟨C', hC', rfl⟩ := concA_none hsb hA2
                  rw [hC] at hC'; cases hC'
                  obtain ⟨cs, el, fr, g1, g2, g3, g4⟩ := hR.load hl hC
                  obtain ⟨ds, dl', dr, k1, k2, k3, k4, k5⟩ := hR.store hst hB g4
                  refine ⟨_, _, φ, ?_, rfl, k4, k5⟩
                  rw [copy_start h0 hu hes (lenOf_run hx n rfl)]
                  have hfc : (Builtin.firstCells es (Nat.min n dl) (.slice (some ⟨C.blk, C.base + b.off, none⟩) n (if c2 < BIG then c2 else c2 - BIG + C.exc))).run P w = .ok _ w := loadCells_run g1 g2
                  rw [bind_ok hfc]
                  simp only []
                  have := storeCells_run (P := P) (o := B.base + a.off) _ 0 w ds dl' dr k1 k2 (all_one hone g4) (by simpa using k3)
                  rw [bind_ok this, run_pure]; rfl
              · cases h
            · cases h
        · next a dl c s =>
          obtain ⟨B, A, hB, hA, hD⟩ := conc_slice hd
          split at h
          · next hz => cases h; exact nothing s.size dl _ _ rfl hz hD
          · next hz =>
            split at h
            · next hsa =>
              split at h
              · next hes1 =>
                cases hst : H.store a.block a.off ((bytesOf s).take (min s.size dl)) with
                | none => rw [hst] at h; cases h
                | some H1 =>
                  rw [hst] at h; cases h
                  subst hD
                  obtain ⟨B', hB', rfl⟩ := concA_none hsa hA
                  rw [hB] at hB'; cases hB'
                  simp [conc] at hx; subst hx
                  have hpl : ((bytesOf s).take (min s.size dl)).all plainS = true := by
                    rw [List.all_eq_true]; intro y hy
                    have := List.mem_of_mem_take hy
                    simp only [bytesOf, List.mem_map] at this; obtain ⟨b, _, rfl⟩ := this; rfl
                  have hone : ((bytesOf s).take (min s.size dl)).all oneCell = true := by
                    rw [List.all_eq_true]; intro y hy
                    have := List.mem_of_mem_take hy
                    simp only [bytesOf, List.mem_map] at this; obtain ⟨b, _, rfl⟩ := this; rfl
                  have g4 := concL_plain (φ := φ) hpl
                  obtain ⟨ds, dl', dr, k1, k2, k3, k4, k5⟩ := hR.store hst hB g4
                  refine ⟨_, _, φ, ?_, rfl, k4, k5⟩
                  rw [copy_start h0 hu hes (show (Builtin.lenOf (.string s)).run P w = .ok s.size w from rfl)]
                  have hfc : (Builtin.firstCells es (Nat.min s.size dl) (.string s)).run P w = .ok ((s.extract 0 (Nat.min s.size dl)).data.map fun b => .int .u8 b.toNat) w := rfl
                  rw [bind_ok hfc]
                  simp only []
                  have hl : ((s.extract 0 (Nat.min s.size dl)).data.map fun b => Value.int .u8 b.toNat).toList = (bytesOf s).take (min s.size dl) := by
                    rw [Array.toList_map]
                    unfold bytesOf
                    rw [← List.map_take]
                    congr 1
                    have : (s.extract 0 (Nat.min s.size dl)).data = s.data.extract 0 (Nat.min s.size dl) := by simp
                    rw [this]; simp [List.extract_eq_take_drop]
                  rw [hl]
                  have := storeCells_run (P := P) (o := B.base + a.off) _ 0 w ds dl' dr k1 k2 (all_one hone g4) (by simpa using k3)
                  rw [bind_ok this, run_pure]; rfl
              · cases h
            · cases h
        · cases h
      · cases h
    · cases h
  · cases h
theorem clearV_ok {ts : Array TypeId} {ty : TypeId} {x v X : Value} (hR : Rel φ H w) (h : clearV P H ts.toList x = some (v, H')) (hx : conc φ x = some X) : Does P φ H w (Builtin.clear_ ts ty #[X]) v H' := by
  unfold clearV at h
  split at h
  · next t0 tl hts =>
    have h0 : ts[0]? = some t0 := by rw [← Array.getElem?_toList, hts]; rfl
    split at h
    · next e a n c hu =>
      obtain ⟨B, A, hB, hA, rfl⟩ := conc_slice hx
      split at h
      · next hn =>
        cases h; subst hn
        refine ⟨.tuple #[], w, φ, ?_, rfl, hR, Step.refl _ _ _⟩
        unfold Builtin.clear_
        simp only [h0]
        show (Sem.bind (underlying t0) _).run P w = _
        exact (bind_ok (underlying_run hu)).trans rfl
      · next hn =>
        split at h
        · next z hz hs =>
          split at h
          · next hc =>
            cases hst : H.store a.block a.off (copies n (cellsL z)) with
            | none => rw [hst] at h; cases h
            | some H1 =>
              rw [hst] at h; cases h
              obtain ⟨B', hB', rfl⟩ := concA_none hs hA
              rw [hB] at hB'; cases hB'
              have hzc := cellsL_plain hc.1
              have hpl := copies_plain n _ hc.1
              have g4 := concL_plain (φ := φ) hpl
              have hone : (copies n (cellsL z)).all oneCell = true := by
                rw [List.all_eq_true]; intro y hy
                have := (List.all_eq_true.1 hpl) y hy
                cases y <;> simp [plainS] at this <;> rfl
              obtain ⟨ds, dl', dr, k1, k2, k3, k4, k5⟩ := hR.store hst hB g4
              refine ⟨.tuple #[], _, φ, ?_, rfl, k4, k5⟩
              obtain ⟨n', rfl⟩ : ∃ n', n = n' + 1 := ⟨n - 1, by omega⟩
              unfold Builtin.clear_
              simp only [h0]
              show (Sem.bind (underlying t0) _).run P w = _
              refine (bind_ok (underlying_run hu)).trans ?_
              have e1 : (Builtin.zeroCells z.cells (n' + 1)).toList = copies (n' + 1) (cellsL z) := by
                unfold Builtin.zeroCells
                rw [range_copies (n' + 1) (by rw [hzc]; simpa using hc.2), hzc]
              show (Sem.bind (zeroValue e) _).run P w = _
              refine (bind_ok (zeroValue_run hz)).trans ?_
              show (Sem.bind (storeCells _ _) _).run P w = _
              rw [e1]
              have := storeCells_run (P := P) (o := B.base + a.off) _ 0 w ds dl' dr k1 k2 (all_one hone g4) (by simpa using k3)
              rw [Nat.add_zero] at this
              exact (bind_ok this).trans rfl
          · cases h
        · cases h
    · next e n c hu =>
      cases h
      simp [conc] at hx; subst hx
      refine ⟨.tuple #[], w, φ, ?_, rfl, hR, Step.refl _ _ _⟩
      unfold Builtin.clear_
      simp only [h0]
      show (Sem.bind (underlying t0) _).run P w = _
      exact (bind_ok (underlying_run hu)).trans rfl
    · next k e hu =>
      cases h
      simp [conc] at hx; subst hx
      refine ⟨.tuple #[], w, φ, ?_, rfl, hR, Step.refl _ _ _⟩
      unfold Builtin.clear_
      simp only [h0]
      show (Sem.bind (underlying t0) _).run P w = _
      exact (bind_ok (underlying_run hu)).trans rfl
    · next k e r hu =>
      obtain ⟨B, hB, rfl⟩ := conc_map hx
      split at h
      · next es clock hg =>
        obtain ⟨c, hc, en, rfl, hsz, hall⟩ := hR.objs _ _ _ hg hB
        cases hst : H.set r (some (.map [] clock)) with
        | none => rw [hst] at h; cases h
        | some H1 =>
          rw [hst] at h; cases h
          obtain ⟨k1, k2⟩ := hR.setObj hg rfl hB hst rfl (c' := .map #[] clock) ⟨#[], rfl, rfl, by simp⟩
          refine ⟨.tuple #[], _, φ, ?_, rfl, k1, k2⟩
          unfold Builtin.clear_
          simp only [h0]
          show (Sem.bind (underlying t0) _).run P w = _
          refine (bind_ok (underlying_run hu)).trans ?_
          show (Sem.bind (getObj B.blk) _).run P w = _
          refine (bind_ok (getObj_run hc (by simp))).trans ?_
          show (Sem.bind (setObj B.blk _) _).run P w = _
          exact (bind_ok (setObj_run hc (by simp))).trans rfl
      · cases h
    · cases h
  · cases h
theorem evRd_ok (hR : Rel φ H w) (hρ : ∀ x u, ρ x = some u → conc φ u = some (ev x)) {o : Oper} {v : Value} (h : evRd P ρ H o.op = some v) : ∃ V, conc φ v = some V ∧ (execOp ev o).run P w = .ok (.value V) w := by
  unfold evRd at h
  split at h
  · next x hop =>
    split at h
    · next u hu =>
      obtain ⟨V, g1, g2⟩ := entryV_ok (P := P) hR h (hρ _ _ hu)
      refine ⟨V, g1, ?_⟩
      unfold execOp
      simp only [hop]
      rw [bind_ok g2]; rfl
    · cases h
  · exact evR_ok hR hρ h
theorem evE_ok (hR : Rel φ H w) (hρ : ∀ x u, ρ x = some u → conc φ u = some (ev x)) {o : Oper} {v : Value} (h : evE P ρ H o.op = some (v, H')) :
    ∃ V w' φ', ((execOp ev o).run P w = .ok (.value V) w' ∨ ((execOp ev o).run P w = .ok .skip w' ∧ V = undef)) ∧ conc φ' v = some V ∧ Rel φ' H' w' ∧ Step φ H w φ' H' w' := by
  obtain ⟨dst, op, ty, pos, after, guard⟩ := o
  simp only at h
  have cu : conc φ undef = some undef := rfl
  unfold evE at h
  split at h
  · next t a x =>
    split at h
    · next a' x' ha hx =>
      obtain ⟨w', g1, rfl, g3, g4⟩ := storeV_ok hR h (hρ _ _ ha) (hρ _ _ hx)
      refine ⟨undef, w', φ, .inr ⟨?_, rfl⟩, cu, g3, g4⟩
      unfold execOp
      simp only
      rw [bind_ok g1]; rfl
    · cases h
  · next t m k x =>
    split at h
    · next m' k' x' hm hk hx =>
      obtain ⟨w', g1, rfl, g3, g4⟩ := mapSetV_ok hR h (hρ _ _ hm) (hρ _ _ hk) (hρ _ _ hx)
      refine ⟨undef, w', φ, .inr ⟨?_, rfl⟩, cu, g3, g4⟩
      unfold execOp
      simp only
      rw [bind_ok g1]; rfl
    · cases h
  · next t m k x =>
    split at h
    · next m' k' x' hm hk hx =>
      obtain ⟨w', g1, rfl, g3, g4⟩ := mapSetV_ok hR h (hρ _ _ hm) (hρ _ _ hk) (hρ _ _ hx)
      refine ⟨undef, w', φ, .inr ⟨?_, rfl⟩, cu, g3, g4⟩
      unfold execOp
      simp only
      rw [bind_ok g1]; rfl
    · cases h
  · next t x =>
    split at h
    · next x' hx =>
      obtain ⟨V, w', φ', g1, g2, g3, g4⟩ := rangeV_ok hR h (hρ _ _ hx)
      refine ⟨V, w', φ', .inl ?_, g2, g3, g4⟩
      unfold execOp
      simp only
      rw [bind_ok g1]; rfl
    · cases h
  · next it b =>
    split at h
    · next x' hx =>
      obtain ⟨V, w', φ', g1, g2, g3, g4⟩ := nextV_ok (P := P) (ty := ty) hR h (hρ _ _ hx)
      refine ⟨V, w', φ', .inl ?_, g2, g3, g4⟩
      unfold execOp
      simp only
      rw [bind_ok g1]; rfl
    · cases h
  · next c =>
    split at h
    · next b hcal =>
      split at h
      · next vs hvs =>
        have hcl := valsV_ok hρ _ _ hvs
        have hargs : c.args.map ev = (c.args.toList.map ev).toArray := by apply Array.toList_inj.1; simp
        have run : ∀ {V : Value} {w' : World} {s : (Array TypeId) → TypeId → Array Value → Sem Value}, (∀ consts, builtin b c.argTypes ty consts (c.args.map ev) = (do pure (.value (← s c.argTypes ty (c.args.map ev))))) → (s c.argTypes ty (c.args.toList.map ev).toArray).run P w = .ok V w' → (execOp ev ⟨dst, .call c, ty, pos, after, guard⟩).run P w = .ok (.value V) w' := by
          intro V w' s hb hs
          unfold execOp
          simp only
          unfold resolve
          rw [hcal]
          simp only
          rw [bind_ok (run_pure P _ w)]
          show (builtin b c.argTypes ty _ (c.args.map ev)).run P w = _
          rw [hb, hargs, bind_ok hs]; rfl
        have two : ∀ {a b : Value}, vs = [a, b] → ∃ A B, conc φ a = some A ∧ conc φ b = some B ∧ c.args.toList.map ev = [A, B] := by
          intro a b e; subst e
          simp only [concL] at hcl
          cases ha : conc φ a with
          | none => rw [ha] at hcl; cases hcl
          | some A =>
            cases hb : conc φ b with
            | none => rw [ha, hb] at hcl; cases hcl
            | some B => rw [ha, hb] at hcl; simp only [Option.some.injEq] at hcl; exact ⟨A, B, rfl, rfl, hcl.symm⟩
        unfold callE at h
        split at h
        · next s x =>
          obtain ⟨A, B, ga, gb, gl⟩ := two rfl
          obtain ⟨V, w', φ', g1, g2, g3, g4⟩ := appendV_ok (ty := ty) hR h ga gb
          exact ⟨V, w', φ', .inl (run (s := Builtin.append_) (fun _ => rfl) (by rw [gl]; exact g1)), g2, g3, g4⟩
        · next s x =>
          obtain ⟨A, B, ga, gb, gl⟩ := two rfl
          obtain ⟨V, w', φ', g1, g2, g3, g4⟩ := copyV_ok (ty := ty) hR h ga gb
          exact ⟨V, w', φ', .inl (run (s := Builtin.copy_) (fun _ => rfl) (by rw [gl]; exact g1)), g2, g3, g4⟩
        · next x =>
          obtain ⟨A, ga, gl⟩ : ∃ V, conc φ x = some V ∧ c.args.toList.map ev = [V] := by
            simp only [concL] at hcl
            cases hv : conc φ x with
            | none => rw [hv] at hcl; cases hcl
            | some V => rw [hv] at hcl; simp only [Option.some.injEq] at hcl; exact ⟨V, rfl, hcl.symm⟩
          obtain ⟨V, w', φ', g1, g2, g3, g4⟩ := clearV_ok (ty := ty) hR h ga
          exact ⟨V, w', φ', .inl (run (s := Builtin.clear_) (fun _ => rfl) (by rw [gl]; exact g1)), g2, g3, g4⟩
        · next s x =>
          obtain ⟨A, B, ga, gb, gl⟩ := two rfl
          obtain ⟨V, w', φ', g1, g2, g3, g4⟩ := deleteV_ok (ty := ty) hR h ga gb
          exact ⟨V, w', φ', .inl (run (s := Builtin.delete_) (fun _ => rfl) (by rw [gl]; exact g1)), g2, g3, g4⟩
        · cases h
      · cases h
    · cases h
  · cases h
end
end Ev
end Go.Proofs.YtifoekadjnlhcaaGreatDoor
