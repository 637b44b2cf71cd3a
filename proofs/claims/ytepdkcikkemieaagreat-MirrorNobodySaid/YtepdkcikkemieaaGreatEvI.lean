/- THE ENGINE, 9: lengths, structs and arrays built; all operations that need no memory. -/
import Derived.Test.YtepdkcikkemieaaGreatEvH
noncomputable section
namespace Go.Proofs.YtepdkcikkemieaaGreat
open Go.RowKit
set_option linter.unusedVariables false
set_option linter.unusedSimpArgs false
namespace Ev

def cellsL : Value → List Value
  | .agg ⟨l⟩ => l
  | v => [v]
section
variable {P : Program} {φ : Phi}
theorem cellsL_conc {v X : Value} (h : conc φ v = some X) : concL φ (cellsL v) = some X.cells.toList := by
  have one : oneCell v = true → concL φ [v] = some X.cells.toList := fun h1 => by
    have h2 := oneCell_conc h1 h
    have h3 : X.cells = #[X] := by cases X <;> simp [oneCell] at h2 <;> rfl
    rw [h3]; simp [concL, h]
  cases v
  case agg cs => obtain ⟨cs⟩ := cs; obtain ⟨l, hl, rfl⟩ := conc_agg h; simpa [Value.cells, cellsL] using hl
  case tuple vs =>
    obtain ⟨vs⟩ := vs; have h' := h
    obtain ⟨l, hl, rfl⟩ := conc_tuple h
    simp [cellsL, concL, h', Value.cells]
  all_goals exact one rfl
def setL : List Value → Nat → List Value → List Value
  | l, _, [] => l
  | [], _, _ => []
  | _ :: l, 0, v :: vs => v :: setL l 0 vs
  | c :: l, k + 1, vs => c :: setL l k vs
theorem setL_len : ∀ (l : List Value) (k : Nat) (vs : List Value), (setL l k vs).length = l.length
  | l, k, [] => by cases l <;> rfl
  | [], k, v :: vs => rfl
  | c :: l, 0, v :: vs => by simp [setL, setL_len l 0 vs]
  | c :: l, k + 1, v :: vs => by simp [setL, setL_len l k (v :: vs)]
theorem setL_get : ∀ (l : List Value) (k : Nat) (vs : List Value) (i : Nat), k + vs.length ≤ l.length → (setL l k vs)[i]? = if k ≤ i ∧ i < k + vs.length then vs[i - k]? else l[i]?
  | l, k, [], i, _ => by rw [if_neg (by simp)]; cases l <;> rfl
  | [], k, v :: vs, i, h => by simp at h
  | c :: l, 0, v :: vs, i, h => by
    simp only [List.length_cons] at h ⊢
    cases i with
    | zero => simp [setL]
    | succ i =>
      rw [setL, List.getElem?_cons_succ, setL_get l 0 vs i (by omega)]
      by_cases h1 : i < vs.length
      · rw [if_pos (by omega), if_pos (by omega)]; simp
      · rw [if_neg (by omega), if_neg (by omega)]; simp
  | c :: l, k + 1, v :: vs, i, h => by
    simp only [List.length_cons] at h ⊢
    cases i with
    | zero => simp [setL]
    | succ i =>
      show (c :: setL l k (v :: vs))[i + 1]? = _
      rw [List.getElem?_cons_succ, setL_get l k (v :: vs) i (by simp; omega)]
      simp only [List.length_cons]
      by_cases h1 : k ≤ i ∧ i < k + (vs.length + 1)
      · rw [if_pos h1, if_pos (by omega), show i + 1 - (k + 1) = i - k by omega]
      · rw [if_neg h1, if_neg (by omega)]; simp
theorem foldl_set : ∀ (xs : List Value) (c : Array Value) (off j : Nat), (xs.zipIdx j).foldl (fun cs (p : Value × Nat) => cs.setIfInBounds (off + p.2) p.1) c = putL c (off + j) xs
  | [], c, off, j => rfl
  | x :: xs, c, off, j => by
    rw [List.zipIdx_cons, List.foldl_cons, foldl_set xs _ off (j + 1)]
    rfl
def fillL (place : Nat → Option (Nat × Nat)) : List Value → List (Nat × Value) → Option (List Value)
  | cells, [] => some cells
  | cells, (i, v) :: rest => match place i with
    | some (off, size) => if (cellsL v).length ≠ size ∨ off + (cellsL v).length > cells.length then none else fillL place (setL cells off (cellsL v)) rest
    | none => none
def concPs (φ : Phi) : List (Nat × Value) → List (Nat × Value) → Prop
  | [], y => y = []
  | (i, v) :: l, y => ∃ x y', y = (i, x) :: y' ∧ conc φ v = some x ∧ concPs φ l y'
theorem fill_run {place : Nat → Option (Nat × Nat)} : ∀ (parts : List (Nat × Value)) (PS : List (Nat × Value)) (cells r : List Value) (C : List Value), concPs φ parts PS → fillL place cells parts = some r → concL φ cells = some C →
    ∃ R, Instr.fill place C.toArray PS = some R.toArray ∧ concL φ r = some R
  | [], PS, cells, r, C, hp, h, hc => by
    cases hp; cases h; exact ⟨C, rfl, hc⟩
  | (i, v) :: rest, PS, cells, r, C, hp, h, hc => by
    obtain ⟨x, PS', rfl, hx, hp'⟩ := hp
    unfold fillL at h
    split at h
    · next off size hpl =>
      split at h
      · cases h
      · next hn =>
        have e1 := cellsL_conc hx
        have e2 := concL_len e1
        have e3 := concL_len hc
        simp only [Array.length_toList] at e2
        have hn1 : (cellsL v).length = size ∧ off + (cellsL v).length ≤ cells.length := by omega
        have hnew : concL φ (setL cells off (cellsL v)) = some (putL C.toArray off x.cells.toList).toList := by
          refine concL_of_get (by simp [setL_len, putL_size, e3]) fun k u hu => ?_
          rw [setL_get _ _ _ _ (by omega)] at hu
          rw [Array.getElem?_toList, putL_get _ _ _ _ (by simp; omega)]
          split at hu
          · rw [if_pos (by simp; omega)]; exact concL_get e1 _ _ hu
          · rw [if_neg (by simp; omega)]
            obtain ⟨y, g1, g2⟩ := concL_get hc _ _ hu
            exact ⟨y, by simpa using g1, g2⟩
        obtain ⟨R, g1, g2⟩ := fill_run rest PS' _ r _ hp' h hnew
        refine ⟨R, ?_, g2⟩
        have hcond : ¬ ((decide (x.cells.size ≠ size) || decide (off + x.cells.size > C.toArray.size)) = true) := by
          have : C.toArray.size = C.length := by simp
          rw [this, e2]; simp only [Bool.or_eq_true, decide_eq_true_eq]; omega
        unfold Instr.fill
        simp only [hpl]
        rw [if_neg hcond]
        have : x.cells.zipIdx.foldl (fun cs (p : Value × Nat) => cs.setIfInBounds (off + p.2) p.1) C.toArray = putL C.toArray off x.cells.toList := by
          rw [← Array.foldl_toList, Array.toList_zipIdx]
          exact foldl_set _ _ _ 0
        rw [← g1]
        simp only [Array.toArray_toList]
        rw [← this]
    · cases h
/-- The places of a struct's fields. -/
def placesV (P : Program) : List Field → Option (List (Nat × Nat))
  | [] => some []
  | f :: fs => match tSize P f.type, placesV P fs with
    | some n, some l => some ((f.offset, n) :: l)
    | _, _ => none
theorem places_run : ∀ (fs : List Field) (l : List (Nat × Nat)), placesV P fs = some l → RunsTo P (fs.mapM fun f => do pure (f.offset, ← Go.sizeOf f.type) : Sem (List (Nat × Nat))) l
  | [], l, h => by cases h; intro w; rfl
  | f :: fs, l, h => by
    unfold placesV at h
    split at h
    · next n l' h1 h2 =>
      cases h
      intro w
      rw [List.mapM_cons]
      have e : (do pure (f.offset, ← Go.sizeOf f.type) : Sem (Nat × Nat)).run P w = .ok (f.offset, n) w := by rw [bind_ok (sizeOf_run h1)]; rfl
      rw [bind_ok e, bind_ok (places_run fs l' h2 w)]; rfl
    · cases h
def buildV (P : Program) (t : TypeId) (ps : List (Nat × Value)) : Option Value :=
  match (P.info? t).bind (·.zero) with
  | some z => if (cellsL z).all plainS then
      match P.underlying t with
      | some (.struct fs) => match placesV P fs.toList with
        | some l => (fillL (fun i => l[i]?) (cellsL z) ps).map fun r => .agg ⟨r⟩
        | none => none
      | some (.array _ e) => match tSize P e with
        | some n => (fillL (fun i => some (i * n, n)) (cellsL z) ps).map fun r => .agg ⟨r⟩
        | none => none
      | _ => none
    else none
  | none => none
theorem cellsL_plain {z : Value} (h : (cellsL z).all plainS = true) : z.cells = (cellsL z).toArray := by
  cases z
  case agg cs => obtain ⟨l⟩ := cs; rfl
  case tuple vs => simp [cellsL, plainS] at h
  all_goals rfl
theorem buildV_ok {t : TypeId} {ps PS : List (Nat × Value)} {v : Value} (h : buildV P t ps = some v) (hp : concPs φ ps PS) : ∃ V, conc φ v = some V ∧ RunsTo P (Instr.build t PS.toArray) V := by
  unfold buildV at h
  split at h
  · next z hz =>
    split at h
    · next hpl =>
      have hzc := cellsL_plain hpl
      split at h
      · next fs hu =>
        split at h
        · next l hl =>
          cases hf : fillL (fun i => l[i]?) (cellsL z) ps with
          | none => rw [hf] at h; cases h
          | some r =>
            rw [hf] at h; cases h
            obtain ⟨R, g1, g2⟩ := fill_run ps PS _ r _ hp hf (concL_plain hpl)
            refine ⟨.agg R.toArray, by simp only [conc, g2]; rfl, fun w => ?_⟩
            unfold Instr.build
            rw [bind_ok (zeroValue_run hz), bind_ok (underlying_run hu)]
            simp only []
            have hm : (fs.mapM fun f => do pure (f.offset, ← Go.sizeOf f.type) : Sem (Array (Nat × Nat))).run P w = .ok l.toArray w := by
              rw [Array.mapM_eq_mapM_toList]
              have := places_run fs.toList l hl w
              show (Sem.bind _ _).run P w = _
              have e := bind_ok (f := fun x : List (Nat × Nat) => (pure x.toArray : Sem _)) this
              exact e
            rw [bind_ok hm]
            have hg : Instr.fill (l.toArray[·]?) z.cells PS.toArray.toList = some R.toArray := by rw [hzc]; simpa using g1
            simp only [hg]; rfl
        · cases h
      · next n e hu =>
        split at h
        · next m hm =>
          cases hf : fillL (fun i => some (i * m, m)) (cellsL z) ps with
          | none => rw [hf] at h; cases h
          | some r =>
            rw [hf] at h; cases h
            obtain ⟨R, g1, g2⟩ := fill_run ps PS _ r _ hp hf (concL_plain hpl)
            refine ⟨.agg R.toArray, by simp only [conc, g2]; rfl, fun w => ?_⟩
            unfold Instr.build
            rw [bind_ok (zeroValue_run hz), bind_ok (underlying_run hu)]
            simp only []
            rw [bind_ok (sizeOf_run hm)]
            have hg : Instr.fill (fun i => some (i * m, m)) z.cells PS.toArray.toList = some R.toArray := by rw [hzc]; simpa using g1
            simp only [hg]; rfl
        · cases h
      · cases h
    · cases h
  · cases h
def lenV (P : Program) (t : TypeId) (x : Value) : Option Value :=
  match P.underlying t, x with
  | some .string, .string s => some (goInt s.size)
  | some (.array n _), _ => some (goInt n)
  | some (.pointer arr), _ => match P.underlying arr with
    | some (.array n _) => some (goInt n)
    | _ => none
  | some (.slice _), .slice _ n _ => some (goInt n)
  | some (.map _ _), .map none => some (goInt 0)
  | some .string, .float .f64 n => if n % 8 = 5 then some (.float .f64 (n + 1)) else none
  | _, _ => none
theorem lenV_ok {t ty : TypeId} {ts : Array TypeId} {x v X : Value} (ht : ts[0]? = some t) (h : lenV P t x = some v) (hx : conc φ x = some X) : ∃ V, conc φ v = some V ∧ RunsTo P (Builtin.len_ ts ty #[X]) V := by
  have start : ∀ w, (Builtin.len_ ts ty #[X]).run P w = (do
    match ← underlying t, X with
    | .string, .string s => pure (goInt s.size)
    | .array n _, _ => pure (goInt n)
    | .pointer arr, _ =>
      let .array n _ ← underlying arr | stuck "len: pointer to array expected"
      pure (goInt n)
    | .slice _, .slice _ n _ => pure (goInt n)
    | .map _ _, .map none | .chan _ _, .chan none => pure (goInt 0)
    | .map _ _, .map (some r) =>
      let .map entries _ ← getObj r | stuck "len: map expected"
      pure (goInt entries.size)
    | .chan _ _, .chan (some r) =>
      let .chan _ buf _ _ _ timer ← getObj r | stuck "len: channel expected"
      pure (goInt (if timer then 0 else buf.size))
    | _, _ => stuck "len: string, array, pointer to array, slice, map or channel expected" : Sem Value).run P w := by
    intro w; unfold Builtin.len_; rw [ht]; rfl
  unfold lenV at h
  split at h
  · next s hu => cases h; simp [conc] at hx; subst hx; exact ⟨_, rfl, fun w => by rw [start, bind_ok (underlying_run hu)]; rfl⟩
  · next n e hu => cases h; exact ⟨_, rfl, fun w => by rw [start, bind_ok (underlying_run hu)]; rfl⟩
  · next arr hu =>
    split at h
    · next n e hu2 => cases h; exact ⟨_, rfl, fun w => by rw [start, bind_ok (underlying_run hu)]; simp only []; rw [bind_ok (underlying_run hu2)]; rfl⟩
    · cases h
  · next e a n c hu =>
    cases h
    cases a with
    | none => simp [conc] at hx; subst hx; exact ⟨_, rfl, fun w => by rw [start, bind_ok (underlying_run hu)]; rfl⟩
    | some a => obtain ⟨B, A, _, _, rfl⟩ := conc_slice hx; exact ⟨_, rfl, fun w => by rw [start, bind_ok (underlying_run hu)]; rfl⟩
  · next k e hu => cases h; simp [conc] at hx; subst hx; exact ⟨_, rfl, fun w => by rw [start, bind_ok (underlying_run hu)]; rfl⟩
  · next n hu =>
    split at h
    · next hc =>
      rw [← Option.some.inj h]
      obtain ⟨s, _, rfl, hat⟩ := tok_str hc (conc_tok hx)
      exact ⟨.int .i64 s.size, conc_of_tok (tok_len hc hat), fun w => by rw [start, bind_ok (underlying_run hu)]; rfl⟩
    · cases h
  · cases h
def capV (P : Program) (t : TypeId) (x : Value) : Option Value :=
  match P.underlying t, x with
  | some (.slice _), .slice _ _ n => if n < BIG then some (goInt n) else none
  | _, _ => none
theorem capV_ok {t ty : TypeId} {ts : Array TypeId} {x v X : Value} (ht : ts[0]? = some t) (h : capV P t x = some v) (hx : conc φ x = some X) : ∃ V, conc φ v = some V ∧ RunsTo P (Builtin.cap_ ts ty #[X]) V := by
  unfold capV at h
  split at h
  · next e a m n hu =>
    split at h
    · next hc =>
      cases h
      cases a with
      | none =>
        simp [conc] at hx; subst hx
        refine ⟨_, rfl, fun w => ?_⟩
        unfold Builtin.cap_; rw [ht]
        show (Sem.bind (underlying t) _).run P w = _
        exact (bind_ok (underlying_run hu)).trans rfl
      | some a =>
        obtain ⟨B, A, _, _, rfl⟩ := conc_slice hx
        rw [if_pos hc]
        refine ⟨_, rfl, fun w => ?_⟩
        unfold Builtin.cap_; rw [ht]
        show (Sem.bind (underlying t) _).run P w = _
        exact (bind_ok (underlying_run hu)).trans rfl
    · cases h
  · cases h
end
end Ev
end Go.Proofs.YtepdkcikkemieaaGreat
