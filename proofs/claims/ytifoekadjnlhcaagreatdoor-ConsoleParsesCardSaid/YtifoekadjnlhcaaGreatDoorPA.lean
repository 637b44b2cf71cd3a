/- As XMix, but behind the LAST operation, which waits for all the others, the class is not asked. -/
import Derived.Test.YtifoekadjnlhcaaGreatDoorMA
import Derived.Test.YtifoekadjnlhcaaGreatDoorMI
namespace Go.Proofs.YtifoekadjnlhcaaGreatDoor
open Go.RowKit
set_option linter.unusedVariables false
set_option linter.unusedSimpArgs false
section
variable {P : Program} {ops : Array Oper} {md : Region.Mode} {σ : Type} {Cl : σ → World → Prop} {C : World → Prop} {vs : Nat → Value} {Q' : Exit → Act → World → Prop}
def wpAnyD (P : Program) (md : Region.Mode) (ops : Array Oper) (C : World → Prop) (t : Nat) (Q' : Exit → Act → World → Prop) : Nat → Array Bool → Act → World → Prop
  | 0, listed, a, w => Region.ready md ops listed = [] ∧ Q' .normal a w
  | f + 1, listed, a, w => (Region.ready md ops listed = [] → Q' .normal a w) ∧ ∀ i ∈ Region.ready md ops listed, wpOp P ops Q' i (fun a' w' => (i ≠ t → C w') ∧ wpAnyD P md ops C t Q' f (listed.setIfInBounds i true) a' w') a w
end
def loudR (P : Program) (ops : Array Oper) (C : World → Prop) (Q : Exit → Act → World → Prop) (R : Act → World → Prop) : List Oper → Act → World → Prop
  | [], a, w => R a w
  | o :: rest, a, w => wpList P ops (then' Q C (loudR P ops C Q R rest)) [o] a w
def lastB (l : List Oper) (t : Nat) (qs : List Nat) : Bool :=
  match l[t]? with
  | some o => qs.all (fun i => decide (i ≠ t) && o.after.any (fun e => Region.binds .any e && decide (e.on = i)))
  | none => false
end Go.Proofs.YtifoekadjnlhcaaGreatDoor
namespace Go.Proofs.YtifoekadjnlhcaaGreatDoor
open Go.RowKit
set_option linter.unusedVariables false
set_option linter.unusedSimpArgs false
inductive LU where
  | done : LU
  | one (i : Nat) (t : LU) : LU
  | alt (t u : LU) : LU
def LU.len : LU → Nat
  | .done => 0
  | .one _ t => t.len + 1
  | .alt t u => max t.len u.len
def LU.heads : LU → List Nat
  | .done => []
  | .one i _ => [i]
  | .alt t u => t.heads ++ u.heads
def okU (md : Region.Mode) (ops : Array Oper) : LU → Array Bool → Bool
  | .done, listed => true
  | .one i t, listed => decide (Region.ready md ops (listed.setIfInBounds i true) = t.heads) && okU md ops t (listed.setIfInBounds i true)
  | .alt t u, listed => !t.heads.isEmpty && !u.heads.isEmpty && okU md ops t listed && okU md ops u listed
def loudU (P : Program) (l : List Oper) (C : World → Prop) (Q : Exit → Act → World → Prop) : LU → Act → World → Prop
  | .done, a, w => Q .normal a w
  | .one i t, a, w => wpList P l.toArray (then' Q C (loudU P l C Q t)) (pickl l [i]) a w
  | .alt t u, a, w => loudU P l C Q t a w ∧ loudU P l C Q u a w
section
variable {P : Program} {l : List Oper} {C : World → Prop} {Q : Exit → Act → World → Prop} {a : Act} {w : World}
theorem loudU_done (h : Q .normal a w) : loudU P l C Q .done a w := h
theorem loudU_one {i : Nat} {t : LU} (b : List Bool) (hb : pickl l [i] = sel b l) (h : wpList P l.toArray (then' Q C (loudU P l C Q t)) (sel b l) a w) : loudU P l C Q (.one i t) a w := by
  unfold loudU; rw [hb]; exact h
theorem loudU_alt {t u : LU} (h : loudU P l C Q t a w) (k : loudU P l C Q u a w) : loudU P l C Q (.alt t u) a w := ⟨h, k⟩
end
theorem wpU_head {P : Program} {md : Region.Mode} {l : List Oper} {C : World → Prop} {Q' : Exit → Act → World → Prop} {f : Nat} {listed : Array Bool}
    (ih : ∀ (t : LU) (listed : Array Bool) (a : Act) (w : World), t.len ≤ f → Region.ready md l.toArray listed = t.heads → okU md l.toArray t listed = true → loudU P l C Q' t a w → wpAnyC P md l.toArray C Q' f listed a w) :
    ∀ (t : LU) (a : Act) (w : World), t.len ≤ f + 1 → okU md l.toArray t listed = true → loudU P l C Q' t a w → (∀ i ∈ t.heads, i ∈ Region.ready md l.toArray listed) →
      ∀ i ∈ t.heads, wpOp P l.toArray Q' i (fun a' w' => C w' ∧ wpAnyC P md l.toArray C Q' f (listed.setIfInBounds i true) a' w') a w
  | .done, a, w, hf, hB, h, hr, i, hi => by cases hi
  | .one j t, a, w, hf, hB, h, hr, i, hi => by
    obtain rfl : i = j := by simpa [LU.heads] using hi
    simp only [okU, Bool.and_eq_true, decide_eq_true_eq] at hB
    obtain ⟨_, o, ho, _⟩ := mem_ready.1 (hr i (by simp [LU.heads]))
    have ho' : l[i]? = some o := by simpa using ho
    exact wpOp_mono (fun a' w' h' => ⟨h'.1, ih t _ a' w' (by simp [LU.len] at hf; omega) hB.1 hB.2 h'.2⟩) (wpOp_pick ho' h)
  | .alt t u, a, w, hf, hB, h, hr, i, hi => by
    simp only [okU, Bool.and_eq_true] at hB
    simp only [LU.len] at hf
    rcases List.mem_append.1 hi with hi | hi
    · exact wpU_head ih t a w (by omega) hB.1.2 h.1 (fun k hk => hr k (List.mem_append_left _ hk)) i hi
    · exact wpU_head ih u a w (by omega) hB.2 h.2 (fun k hk => hr k (List.mem_append_right _ hk)) i hi
theorem loudU_end {P : Program} {md : Region.Mode} {l : List Oper} {C : World → Prop} {Q' : Exit → Act → World → Prop} : ∀ (t : LU) (listed : Array Bool) (a : Act) (w : World), t.heads = [] → okU md l.toArray t listed = true → loudU P l C Q' t a w → Q' .normal a w
  | .done, listed, a, w, _, _, h => h
  | .one i t, listed, a, w, hh, _, _ => by cases hh
  | .alt t u, listed, a, w, hh, hB, _ => by
    simp only [okU, Bool.and_eq_true] at hB
    simp only [LU.heads, List.append_eq_nil_iff] at hh
    rw [hh.1] at hB
    simp at hB
theorem wpAnyC_of_U {P : Program} {md : Region.Mode} {l : List Oper} {C : World → Prop} {Q' : Exit → Act → World → Prop} : ∀ (f : Nat) (t : LU) (listed : Array Bool) (a : Act) (w : World), t.len ≤ f →
    Region.ready md l.toArray listed = t.heads → okU md l.toArray t listed = true → loudU P l C Q' t a w → wpAnyC P md l.toArray C Q' f listed a w
  | 0, t, listed, a, w, hf, hr, hB, h => by
    have hh : t.heads = [] := by
      clear h hB hr
      induction t with
      | done => rfl
      | one i t ih => simp [LU.len] at hf
      | alt t u h1 h2 => simp only [LU.len] at hf; simp only [LU.heads]; rw [h1 (by omega), h2 (by omega)]; rfl
    exact ⟨by rw [hr, hh], loudU_end t listed a w hh hB h⟩
  | f + 1, t, listed, a, w, hf, hr, hB, h =>
    ⟨fun h0 => loudU_end t listed a w (by rw [← hr]; exact h0) hB h, fun i hi => by
      rw [hr] at hi
      exact wpU_head (fun t listed a w h1 h2 h3 h4 => wpAnyC_of_U f t listed a w h1 h2 h3 h4) t a w hf hB h (fun k hk => by rw [hr]; exact hk) i hi⟩
def okU0 (md : Region.Mode) (ops : Array Oper) (t : LU) (listed : Array Bool) : Bool := decide (Region.ready md ops listed = t.heads) && okU md ops t listed
def regU (l : List Oper) (qs : List Nat) (t : LU) (m : Nat) : Bool :=
  Region.noSelect l.toArray && ordC .any l.toArray (okU0 .any l.toArray t) qs (Array.replicate l.toArray.size false) &&
    dstB m (pickl l qs) && decide (qs.length + t.len = l.length) && qs.all (fun i => decide (i < l.length))
theorem wp_region_U {σ : Type} (F : σ → World) (s0 : σ) {P : Program} {id : Nat} {Q : Exit → Act → World → Prop} {a : Act} {W : World} {l : List Oper} (qs : List Nat) (t : LU) (bq : List Bool) (h0 : W.drew = F s0) (hsel' : pickl l qs = sel bq l)
    (hm : P.follows .mixedOrders = true) (hB : regU l qs t a.tmps.size = true) (hQ : ∀ c a d v w, Q (.panic c) (a.put d v) w → Q (.panic c) a w)
    (h : ∃ aE : Act, (∀ s : σ, wpQuiet P l.toArray (fun w' => w' = F s) (fun a' => a' = aE) (sel bq l) a) ∧
      loudU P l (fun w' => ∃ s, w' = F s) Q t aE W.drew) :
    (Code.region id l.toArray true).wp P Q a W := by
  rw [← hsel', h0] at h
  obtain ⟨aE, h1, h2⟩ := h
  simp only [regU, Bool.and_eq_true, decide_eq_true_eq] at hB
  obtain ⟨⟨⟨⟨hsel, hord⟩, hdst⟩, hlen⟩, hlt⟩ := hB
  refine wp_region_any hm ?_
  have H := C_all (P := P) (md := .any) (ops := l.toArray) (σ := σ) (Cl := fun s w' => w' = F s) (C := fun w' => ∃ s, w' = F s) (vs := slotOf l.toArray aE) (Q' := Q) (f := t.len) (E := okU0 .any l.toArray t)
    (T := fun a' w' => loudU P l (fun w' => ∃ s, w' = F s) Q t a' w')
    hsel (fun s w1 w2 h1 h2 => h1.trans h2.symm) (fun w' h => h) hQ (fun listed a' w' hE hT => by
      simp only [okU0, Bool.and_eq_true, decide_eq_true_eq] at hE
      exact wpAnyC_of_U _ t listed a' w' (Nat.le_refl _) hE.1 hE.2 hT) (F s0) ⟨s0, rfl⟩
    qs _ a hord (ord_of_quiet s0 h2 _ _ _ (pick_map l qs hlt) hdst h1)
  have := wpAny_of_C _ _ _ _ H
  rw [show qs.length + t.len = l.toArray.size by simpa using hlen] at this
  rw [← h0] at this
  exact this
end Go.Proofs.YtifoekadjnlhcaaGreatDoor
namespace Go.Proofs.YtifoekadjnlhcaaGreatDoor
set_option linter.unusedVariables false
set_option linter.unusedSimpArgs false
def tkOf (c : UInt8) : TK := if c = 115 then .s else if c = 121 then .y else .n
def numR (s : Word) : Nat × Bool := match numW s with
  | some n => (n, true)
  | none => (0, false)
def takeR : List UInt8 → List Word → Option (List Word × List Nat)
  | [], [] => some ([], [])
  | c :: cs, w :: ws =>
    if c = 115 then match takeR cs ws with
      | none => none
      | some (s, n) => some (w :: s, n)
    else match numW w with
      | none => none
      | some k => if c = 121 ∧ 1 < k then none else match takeR cs ws with
        | none => none
        | some (s, n) => some (s, k :: n)
  | _, _ => none
def tvS : List TV → List Word
  | [] => []
  | .s w :: r => w :: tvS r
  | _ :: r => tvS r
def tvN : List TV → List Nat
  | [] => []
  | .s _ :: r => tvN r
  | .n k :: r => k :: tvN r
  | .y b :: r => (if b then 1 else 0) :: tvN r
theorem takeR_all : ∀ (cs : List UInt8) (ws : List Word), (∀ c ∈ cs, c = 115 ∨ c = 110 ∨ c = 121) → takeR cs ws = match tkAll (cs.map tkOf) ws with
    | some (vs, []) => some (tvS vs, tvN vs)
    | _ => none
  | [], [], _ => rfl
  | [], w :: ws, _ => rfl
  | c :: cs, [], h => by
    rcases h c (by simp) with rfl | rfl | rfl <;> rfl
  | c :: cs, w :: ws, h => by
    have ih := takeR_all cs ws (fun x hx => h x (by simp [hx]))
    rw [takeR]
    rcases h c (by simp) with rfl | rfl | rfl
    · rw [if_pos rfl, ih]
      show _ = match (match tkT (w :: ws) with
        | none => none
        | some (t, r) => match tkAll (cs.map tkOf) r with
          | none => none
          | some (vs, q) => some (TV.s t :: vs, q)) with
        | some (vs, []) => some (tvS vs, tvN vs)
        | _ => none
      rw [tkT]
      dsimp only
      cases tkAll (cs.map tkOf) ws with
      | none => rfl
      | some p =>
        obtain ⟨vs, q⟩ := p
        cases q <;> rfl
    · rw [if_neg (by decide)]
      show _ = match (match tkN (w :: ws) with
        | none => none
        | some (t, r) => match tkAll (cs.map tkOf) r with
          | none => none
          | some (vs, q) => some (TV.n t :: vs, q)) with
        | some (vs, []) => some (tvS vs, tvN vs)
        | _ => none
      rw [tkN]
      cases numW w with
      | none => rfl
      | some k =>
        dsimp only
        rw [if_neg (by rintro ⟨h, _⟩; revert h; decide), ih]
        cases tkAll (cs.map tkOf) ws with
        | none => rfl
        | some p =>
          obtain ⟨vs, q⟩ := p
          cases q <;> rfl
    · rw [if_neg (by decide)]
      show _ = match (match tkY (w :: ws) with
        | none => none
        | some (t, r) => match tkAll (cs.map tkOf) r with
          | none => none
          | some (vs, q) => some (TV.y t :: vs, q)) with
        | some (vs, []) => some (tvS vs, tvN vs)
        | _ => none
      rw [tkY]
      cases numW w with
      | none => rfl
      | some k =>
        dsimp only
        by_cases hk : k ≤ 1
        · rw [if_neg (by omega), if_pos hk, ih]
          dsimp only
          have hb : (if decide (k = 1) = true then 1 else 0) = k := by
            by_cases h1 : k = 1
            · subst h1; rfl
            · rw [if_neg (by simpa using h1)]; omega
          cases tkAll (cs.map tkOf) ws with
          | none => rfl
          | some p =>
            obtain ⟨vs, q⟩ := p
            cases q with
            | nil => show some (tvS vs, k :: tvN vs) = some (tvS vs, (if decide (k = 1) = true then 1 else 0) :: tvN vs); rw [hb]
            | cons _ _ => rfl
        · rw [if_pos ⟨rfl, by omega⟩, if_neg hk]
theorem tkAll_take : ∀ (sh : List TK) (ws : List Word), tkAll sh ws = if sh.length ≤ ws.length then (match tkAll sh (ws.take sh.length) with
    | some (vs, []) => some (vs, ws.drop sh.length)
    | _ => none) else none
  | [], ws => by simp [tkAll]
  | k :: sh, [] => by cases k <;> simp [tkAll, tkT, tkN, tkY]
  | k :: sh, w :: ws => by
    have ih := tkAll_take sh ws
    simp only [List.length_cons, List.take_succ_cons, List.drop_succ_cons, Nat.add_le_add_iff_right]
    cases k with
    | s =>
      rw [tkAll, tkT, tkAll, tkT]
      dsimp only
      rw [ih]
      by_cases hl : sh.length ≤ ws.length
      · rw [if_pos hl, if_pos hl]
        cases tkAll sh (ws.take sh.length) with
        | none => rfl
        | some p => obtain ⟨vs, q⟩ := p; cases q <;> rfl
      · rw [if_neg hl, if_neg hl]
    | n =>
      rw [tkAll, tkN, tkAll, tkN]
      cases numW w with
      | none => dsimp only; split <;> rfl
      | some k =>
        dsimp only
        rw [ih]
        by_cases hl : sh.length ≤ ws.length
        · rw [if_pos hl, if_pos hl]
          cases tkAll sh (ws.take sh.length) with
          | none => rfl
          | some p => obtain ⟨vs, q⟩ := p; cases q <;> rfl
        · rw [if_neg hl, if_neg hl]
    | y =>
      rw [tkAll, tkY, tkAll, tkY]
      cases numW w with
      | none => dsimp only; split <;> rfl
      | some k =>
        dsimp only
        by_cases hk : k ≤ 1
        · simp only [if_pos hk]
          rw [ih]
          by_cases hl : sh.length ≤ ws.length
          · rw [if_pos hl, if_pos hl]
            cases tkAll sh (ws.take sh.length) with
            | none => rfl
            | some p => obtain ⟨vs, q⟩ := p; cases q <;> rfl
          · rw [if_neg hl, if_neg hl]
        · simp only [if_neg hk]
          split <;> rfl
def sh7 : List TK := [.s, .n, .y, .n, .n, .n, .n]
def cs7 : List UInt8 := [115, 110, 121, 110, 110, 110, 110]
def prodOf (w7 : List Word) : List Word → List Nat → Req
  | [t], [i, f, p, e, q, tm] => { reqBlank 3 with topic := t, index := i, flush := decide (f = 1), batch := ⟨0, w7.length, p, e, q, recsW tm 0 w7⟩ }
  | _, _ => reqBlank 0
def prodR (ws : List Word) : Option Req := if 8 ≤ ws.length ∧ ws.length ≤ 39 then match takeR cs7 (ws.take 7) with
    | none => none
    | some (s, n) => some (prodOf (ws.drop 7) s n)
  else none
theorem prodW_all (ws : List Word) : prodW ws = match tkAll sh7 ws with
    | some ([.s t, .n i, .y f, .n p, .n e, .n q, .n tm], w7) => if 0 < w7.length ∧ w7.length ≤ 32 then some ({ reqBlank 3 with topic := t, index := i, flush := f, batch := ⟨0, w7.length, p, e, q, recsW tm 0 w7⟩ }, []) else none
    | _ => none := by
  unfold prodW sh7
  simp only [tkAll]
  cases tkT ws with
  | none => rfl
  | some a => obtain ⟨t, w1⟩ := a; dsimp only; cases tkN w1 with
    | none => rfl
    | some a => obtain ⟨i, w2⟩ := a; dsimp only; cases tkY w2 with
      | none => rfl
      | some a => obtain ⟨f, w3⟩ := a; dsimp only; cases tkN w3 with
        | none => rfl
        | some a => obtain ⟨p, w4⟩ := a; dsimp only; cases tkN w4 with
          | none => rfl
          | some a => obtain ⟨e, w5⟩ := a; dsimp only; cases tkN w5 with
            | none => rfl
            | some a => obtain ⟨q, w6⟩ := a; dsimp only; cases tkN w6 with
              | none => rfl
              | some a => obtain ⟨tm, w7⟩ := a; rfl
theorem prodR_eq (ws : List Word) : prodR ws = (prodW ws).map Prod.fst := by
  have h1 := prodW_all ws
  have h2 := tkAll_take sh7 ws
  have h3 := takeR_all cs7 (ws.take 7) (by decide)
  have e7 : sh7.length = 7 := rfl
  have em : cs7.map tkOf = sh7 := rfl
  rw [em] at h3
  rw [e7] at h2
  unfold prodR
  by_cases hl : 7 ≤ ws.length
  · rw [if_pos hl] at h2
    rw [h1, h2, h3]
    have hd : (ws.drop 7).length = ws.length - 7 := List.length_drop
    generalize ws.take 7 = u
    unfold sh7
    simp only [tkAll]
    have hno : (if 8 ≤ ws.length ∧ ws.length ≤ 39 then (none : Option Req) else none) = none := by split <;> rfl
    cases tkT u with
    | none => exact hno
    | some a => obtain ⟨t, w1⟩ := a; dsimp only; cases tkN w1 with
      | none => exact hno
      | some a => obtain ⟨i, w2⟩ := a; dsimp only; cases tkY w2 with
        | none => exact hno
        | some a => obtain ⟨f, w3⟩ := a; dsimp only; cases tkN w3 with
          | none => exact hno
          | some a => obtain ⟨p, w4⟩ := a; dsimp only; cases tkN w4 with
            | none => exact hno
            | some a => obtain ⟨e, w5⟩ := a; dsimp only; cases tkN w5 with
              | none => exact hno
              | some a => obtain ⟨q, w6⟩ := a; dsimp only; cases tkN w6 with
                | none => exact hno
                | some a =>
                  obtain ⟨tm, w7⟩ := a
                  cases w7 with
                  | cons _ _ => exact hno
                  | nil =>
                    dsimp only
                    by_cases hc : 8 ≤ ws.length ∧ ws.length ≤ 39
                    · rw [if_pos hc, if_pos (by omega)]
                      cases f <;> rfl
                    · rw [if_neg hc, if_neg (by omega)]; rfl
  · rw [if_neg hl] at h2
    rw [h1, h2, if_neg (by omega)]; rfl
theorem prodW_nil {ws r : List Word} {q : Req} (h : prodW ws = some (q, r)) : r = [] := by
  rw [prodW_all] at h
  split at h
  · split at h
    · cases h; rfl
    · cases h
  · cases h
def otherR (w : Word) (ws : List Word) : Option Stp :=
  if w = w_tick then match takeR [110] ws with
    | none => none
    | some (_, n) => some { stpBlank 1 with n := (n.headD 0 : Nat) }
  else if w = w_work then match takeR [110] ws with
    | none => none
    | some (_, n) => some { stpBlank 2 with n := (n.headD 0 : Nat) }
  else if w = w_fail then match takeR [110, 121] ws with
    | none => none
    | some (_, n) => some { stpBlank 3 with n := (n.headD 0 : Nat), done := decide (n.getD 1 0 = 1) }
  else if w = w_crash then if ws.length ≤ 64 then match fateW ws with
      | none => none
      | some f => some { stpBlank 4 with fate := f }
    else none
  else if w = w_open then if ws = [] then some (stpBlank 5) else none
  else none
def parseR : List Word → Option Stp
  | [] => none
  | w :: r => if w = w_produce then match prodR r with
      | none => none
      | some q => some { stpBlank 0 with q := q }
    else match reqSh w with
      | some (k, sh) => match tkAll sh r with
        | some (vs, []) => some { stpBlank 0 with q := reqOf k vs }
        | _ => none
      | none => otherR w r
theorem takeN1 (ws : List Word) : takeR [110] ws = match tkN ws with
    | some (n, []) => some ([], [n])
    | _ => none := by
  rw [takeR_all _ _ (by decide)]
  show (match tkAll [.n] ws with
    | some (vs, []) => some (tvS vs, tvN vs)
    | _ => none) = _
  simp only [tkAll]
  cases tkN ws with
  | none => rfl
  | some a => obtain ⟨n, r⟩ := a; cases r <;> rfl
theorem takeNY (ws : List Word) : takeR [110, 121] ws = match tkN ws with
    | none => none
    | some (n, r) => match tkY r with
      | some (y, []) => some ([], [n, if y then 1 else 0])
      | _ => none := by
  rw [takeR_all _ _ (by decide)]
  show (match tkAll [.n, .y] ws with
    | some (vs, []) => some (tvS vs, tvN vs)
    | _ => none) = _
  simp only [tkAll]
  cases tkN ws with
  | none => rfl
  | some a => obtain ⟨n, r⟩ := a; dsimp only; cases tkY r with
    | none => rfl
    | some a => obtain ⟨y, r⟩ := a; cases r <;> rfl
theorem sh_prod : reqSh w_produce = none := by decide
theorem parse_eq (line : List UInt8) : parseW line = parseR (splitC 32 line) := by
  unfold parseW
  cases splitC 32 line with
  | nil => rfl
  | cons w r =>
    rw [parseR]
    dsimp only
    unfold stepW requestW
    by_cases hp : w = w_produce
    · subst hp
      rw [if_pos rfl, sh_prod]
      dsimp only
      rw [if_pos rfl, prodR_eq]
      cases hq : prodW r with
      | none => rfl
      | some a => obtain ⟨q, r'⟩ := a; rw [prodW_nil hq]; rfl
    · simp only [if_neg hp]
      cases reqSh w with
      | some a =>
        obtain ⟨k, sh⟩ := a
        dsimp only
        cases tkAll sh r with
        | none => rfl
        | some a => obtain ⟨vs, r'⟩ := a; cases r' <;> rfl
      | none =>
        dsimp only
        unfold otherR
        rw [takeN1, takeNY]
        by_cases h1 : w = w_tick
        · rw [if_pos h1, if_pos h1]
          cases tkN r with
          | none => rfl
          | some a => obtain ⟨n, r'⟩ := a; cases r' <;> rfl
        · rw [if_neg h1, if_neg h1]
          by_cases h2 : w = w_work
          · rw [if_pos h2, if_pos h2]
            cases tkN r with
            | none => rfl
            | some a => obtain ⟨n, r'⟩ := a; cases r' <;> rfl
          · rw [if_neg h2, if_neg h2]
            by_cases h3 : w = w_fail
            · rw [if_pos h3, if_pos h3]
              cases tkN r with
              | none => rfl
              | some a =>
                obtain ⟨n, r'⟩ := a
                dsimp only
                cases tkY r' with
                | none => rfl
                | some a =>
                  obtain ⟨y, r'⟩ := a
                  cases r' with
                  | nil => cases y <;> rfl
                  | cons _ _ => rfl
            · rw [if_neg h3, if_neg h3]
              by_cases h4 : w = w_crash
              · rw [if_pos h4, if_pos h4]
                by_cases hl : r.length ≤ 64
                · simp only [if_pos hl]
                  cases fateW r <;> rfl
                · simp only [if_neg hl]
              · rw [if_neg h4, if_neg h4]
                by_cases h5 : w = w_open
                · rw [if_pos h5, if_pos h5]
                  cases r with
                  | nil => rfl
                  | cons _ _ => rfl
                · rw [if_neg h5, if_neg h5]
end Go.Proofs.YtifoekadjnlhcaaGreatDoor
