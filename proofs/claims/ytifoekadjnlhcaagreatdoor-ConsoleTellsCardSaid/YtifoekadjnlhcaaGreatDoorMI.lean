/- console, plain: words, numbers, records, steps of a line: what the program reads, and what the document says. -/
import Derived.Test.YtifoekadjnlhcaaGreatDoorMG
import Derived.Test.YtifoekadjnlhcaaGreatDoorMH
import Derived.Test.YtifoekadjnlhcaaGreatDoorMC
import Derived.Recover
namespace Go.Proofs.YtifoekadjnlhcaaGreatDoor
set_option linter.unusedVariables false
set_option linter.unusedSimpArgs false
abbrev Word := List UInt8
def digB (c : UInt8) : Bool := decide (48 ≤ c.toNat) && decide (c.toNat ≤ 57)
def valW (s : Word) : Nat := s.foldl (fun n c => n * 10 + (c.toNat - 48)) 0
def headB (s : Word) : Bool := decide (s ≠ []) && decide (s.length ≤ 12) && (decide (s = [48]) || decide (s[0]? ≠ some 48))
def numW (s : Word) : Option Nat := if headB s = true ∧ s.all digB = true then some (valW s) else none
theorem valW_snoc (s : Word) (c : UInt8) : valW (s ++ [c]) = valW s * 10 + (c.toNat - 48) := by unfold valW; rw [List.foldl_append]; rfl
theorem valW_lt : ∀ (k : Nat) (s : Word), s.length ≤ k → s.all digB = true → valW s < 10 ^ k := by
  intro k
  induction k with
  | zero =>
    intro s hs _
    have : s = [] := List.eq_nil_of_length_eq_zero (by omega)
    subst this; decide
  | succ k ih =>
    intro s hs hd
    rcases List.eq_nil_or_concat s with rfl | ⟨t, c, rfl⟩
    · exact Nat.pos_of_ne_zero (by simp)
    · rw [List.concat_eq_append] at hs hd ⊢
      rw [List.all_append, Bool.and_eq_true] at hd
      have h1 := ih t (by simp at hs; omega) hd.1
      have h2 : c.toNat ≤ 57 := by
        have := hd.2
        simp [digB] at this
        exact this.2
      rw [valW_snoc, Nat.pow_succ]
      omega
theorem numW_lt {s : Word} {n : Nat} (h : numW s = some n) : n < 1000000000000 := by
  unfold numW at h
  split at h
  · next hc =>
    cases h
    have hl : s.length ≤ 12 := by
      have := hc.1
      unfold headB at this
      simp only [Bool.and_eq_true, decide_eq_true_eq] at this
      exact this.1.2
    exact valW_lt 12 s hl hc.2
  · cases h
def tkT : List Word → Option (Word × List Word)
  | [] => none
  | s :: r => some (s, r)
def tkN : List Word → Option (Nat × List Word)
  | [] => none
  | s :: r => match numW s with
    | some n => some (n, r)
    | none => none
def tkY : List Word → Option (Bool × List Word)
  | [] => none
  | s :: r => match numW s with
    | some n => if n ≤ 1 then some (decide (n = 1), r) else none
    | none => none
def cutC (c : UInt8) : Word → Option (Word × Word)
  | [] => none
  | x :: r => if x = c then some ([], r) else match cutC c r with
    | some (a, b) => some (x :: a, b)
    | none => none
def recW (s : Word) : Rec := match cutC 61 s with
  | some (k, v) => ⟨0, 0, true, k, false, v⟩
  | none => if s.getLast? = some 33 then ⟨0, 0, true, s.dropLast, true, []⟩ else ⟨0, 0, false, [], false, s⟩
def recsW (time : Int) : Nat → List Word → List Rec
  | _, [] => []
  | i, s :: r => { recW s with delta := i, time := time } :: recsW time (i + 1) r
def prodW (ws : List Word) : Option (Req × List Word) :=
  match tkT ws with
  | none => none
  | some (t, w1) => match tkN w1 with
  | none => none
  | some (i, w2) => match tkY w2 with
  | none => none
  | some (f, w3) => match tkN w3 with
  | none => none
  | some (p, w4) => match tkN w4 with
  | none => none
  | some (e, w5) => match tkN w5 with
  | none => none
  | some (q, w6) => match tkN w6 with
  | none => none
  | some (tm, w7) => if 0 < w7.length ∧ w7.length ≤ 32 then some ({ reqBlank 3 with topic := t, index := i, flush := f, batch := ⟨0, w7.length, p, e, q, recsW tm 0 w7⟩ }, []) else none
def w_create : Word := [99, 114, 101, 97, 116, 101]
def w_remove : Word := [114, 101, 109, 111, 118, 101]
def w_describe : Word := [100, 101, 115, 99, 114, 105, 98, 101]
def w_produce : Word := [112, 114, 111, 100, 117, 99, 101]
def w_fetch : Word := [102, 101, 116, 99, 104]
def w_bytime : Word := [98, 121, 116, 105, 109, 101]
def w_join : Word := [106, 111, 105, 110]
def w_leave : Word := [108, 101, 97, 118, 101]
def w_sync : Word := [115, 121, 110, 99]
def w_beat : Word := [98, 101, 97, 116]
def w_commit : Word := [99, 111, 109, 109, 105, 116]
def w_committed : Word := [99, 111, 109, 109, 105, 116, 116, 101, 100]
def w_tick : Word := [116, 105, 99, 107]
def w_work : Word := [119, 111, 114, 107]
def w_fail : Word := [102, 97, 105, 108]
def w_crash : Word := [99, 114, 97, 115, 104]
def w_open : Word := [111, 112, 101, 110]
inductive TK where | s | n | y
inductive TV where | s (w : Word) | n (k : Nat) | y (b : Bool)
def tkAll : List TK → List Word → Option (List TV × List Word)
  | [], ws => some ([], ws)
  | .s :: sh, ws => match tkT ws with
    | none => none
    | some (t, r) => match tkAll sh r with
      | none => none
      | some (vs, q) => some (.s t :: vs, q)
  | .n :: sh, ws => match tkN ws with
    | none => none
    | some (t, r) => match tkAll sh r with
      | none => none
      | some (vs, q) => some (.n t :: vs, q)
  | .y :: sh, ws => match tkY ws with
    | none => none
    | some (t, r) => match tkAll sh r with
      | none => none
      | some (vs, q) => some (.y t :: vs, q)
def reqSh (w : Word) : Option (Nat × List TK) :=
  if w = w_create then some (0, [.s, .n, .y]) else if w = w_remove then some (1, [.s]) else if w = w_describe then some (2, [.s])
  else if w = w_fetch then some (4, [.s, .n, .n, .n]) else if w = w_bytime then some (5, [.s, .n, .n]) else if w = w_join then some (6, [.s, .s]) else if w = w_leave then some (9, [.s, .s])
  else if w = w_sync then some (7, [.s, .s, .n, .s]) else if w = w_beat then some (8, [.s, .s, .n]) else if w = w_commit then some (10, [.s, .s, .n, .s, .n, .n]) else if w = w_committed then some (11, [.s, .s, .n]) else none
def reqOf : Nat → List TV → Req
  | 0, [.s t, .n p, .y c] => { reqBlank 0 with topic := t, parts := p, compact := c }
  | 1, [.s t] => { reqBlank 1 with topic := t }
  | 2, [.s t] => { reqBlank 2 with topic := t }
  | 4, [.s t, .n i, .n o, .n m] => { reqBlank 4 with topic := t, index := i, offset := o, most := m }
  | 5, [.s t, .n i, .n w] => { reqBlank 5 with topic := t, index := i, time := w }
  | 6, [.s g, .s m] => { reqBlank 6 with group := g, member := m }
  | 9, [.s g, .s m] => { reqBlank 9 with group := g, member := m }
  | 7, [.s g, .s m, .n e, .s t] => { reqBlank 7 with group := g, member := m, gen := e, topic := t }
  | 8, [.s g, .s m, .n e] => { reqBlank 8 with group := g, member := m, gen := e }
  | 10, [.s g, .s m, .n e, .s t, .n i, .n o] => { reqBlank 10 with group := g, member := m, gen := e, topic := t, index := i, offset := o }
  | 11, [.s g, .s t, .n i] => { reqBlank 11 with group := g, topic := t, index := i }
  | k, _ => reqBlank k
def requestW (w : Word) (ws : List Word) : Option (Option Req × List Word) :=
  match reqSh w with
  | some (k, sh) => match tkAll sh ws with
    | none => none
    | some (vs, r) => some (some (reqOf k vs), r)
  | none => if w = w_produce then match prodW ws with
      | none => none
      | some (q, r) => some (some q, r)
    else some (none, ws)
def fateW : List Word → Option (List UInt8)
  | [] => some []
  | s :: r => match numW s with
    | none => none
    | some n => if n ≤ 255 then match fateW r with
        | none => none
        | some f => some (UInt8.ofNat n :: f)
      else none
def stepW (w : Word) (ws : List Word) : Option (Stp × List Word) :=
  match requestW w ws with
  | none => none
  | some (some q, r) => some ({ stpBlank 0 with q := q }, r)
  | some (none, ws) =>
    if w = w_tick then match tkN ws with
      | none => none
      | some (n, r) => some ({ stpBlank 1 with n := n }, r)
    else if w = w_work then match tkN ws with
      | none => none
      | some (n, r) => some ({ stpBlank 2 with n := n }, r)
    else if w = w_fail then match tkN ws with
      | none => none
      | some (n, r) => match tkY r with
        | none => none
        | some (y, r) => some ({ stpBlank 3 with n := n, done := y }, r)
    else if w = w_crash then if ws.length ≤ 64 then match fateW ws with
        | none => none
        | some f => some ({ stpBlank 4 with fate := f }, [])
      else none
    else if w = w_open then some (stpBlank 5, ws)
    else none
def parseW (line : List UInt8) : Option Stp := match splitC 32 line with
  | [] => none
  | w :: r => match stepW w r with
    | some (s, []) => some s
    | _ => none
end Go.Proofs.YtifoekadjnlhcaaGreatDoor
namespace Go.Proofs.YtifoekadjnlhcaaGreatDoor
open Go.ChangeShapes Go.WideShapes Go.ChangeAt Go.RowKit
set_option linter.unusedVariables false
set_option linter.unusedSimpArgs false
structure SRd (w : World) (v : Value) (ws : List Word) : Prop where
  out : ∃ a cap, v = .slice a ws.length cap ∧ ws.length ≤ cap ∧ cap ≤ maxLen ∧ (ws ≠ [] → ∃ b off, a = some ⟨b, off, none⟩ ∧ b < w.heap.size ∧ ∀ i s, ws[i]? = some s → w.cell? ⟨b, off + i, none⟩ = some (.string (str s)))
  small : ∀ s ∈ ws, s.length ≤ 1099511627776
theorem SRd.more {w w' : World} {v : Value} {ws : List Word} (h : SRd w v ws) (hm : More w w') : SRd w' v ws := by
  obtain ⟨a, cap, rfl, h1, h2, h3⟩ := h.out
  refine ⟨⟨a, cap, rfl, h1, h2, fun hne => ?_⟩, h.small⟩
  obtain ⟨b, off, ha, hb, hc⟩ := h3 hne
  have bel := hm.below
  exact ⟨b, off, ha, Nat.lt_of_lt_of_le hb bel.size, fun i s hs => by rw [bel.cell hb]; exact hc i s hs⟩
theorem SRd.drop {w : World} {v : Value} {ws : List Word} (h : SRd w v ws) (k : Nat) (hk : k ≤ ws.length) : SRd w (dropV v k) (ws.drop k) := by
  obtain ⟨a, cap, rfl, h1, h2, h3⟩ := h.out
  refine ⟨⟨_, cap - k, by rw [List.length_drop]; rfl, by rw [List.length_drop]; omega, by omega, fun hne => ?_⟩, fun s hs => h.small s (List.mem_of_mem_drop hs)⟩
  have hk' : k < ws.length := by
    rcases Nat.lt_or_ge k ws.length with h | h
    · exact h
    · exact absurd (List.drop_eq_nil_of_le h) hne
  obtain ⟨b, off, rfl, hb, hc⟩ := h3 (by intro h; subst h; simp at hk')
  refine ⟨b, off + k, ?_, hb, fun i s hs => ?_⟩
  · rw [if_neg (by omega)]; simp [addr_add]
  · rw [List.getElem?_drop] at hs
    rw [Nat.add_assoc]; exact hc (k + i) s hs
theorem srd_slice {P : Program} (t e : TypeId) (ht : P.underlying t = some (.slice e)) (hz : ∀ w, (Go.sizeOf e).run P w = .ok 1 w) {w : World} {v : Value} {ws : List Word} (h : SRd w v ws) (k : Int) (h0 : 0 ≤ k) (hk : k ≤ ws.length) (W : World) :
    (Instr.slice t v (some (.int .i64 k)) none none).run P W = .ok (dropV v k.toNat) W := by
  obtain ⟨a, cap, rfl, h1, h2, h3⟩ := h.out
  have ht' : P.underlying t = some (.slice (P.elem t)) := by simp [Program.elem, ht]
  have he : P.elem t = e := by simp [Program.elem, ht]
  rw [run_slice_l W t _ _ _ ht' .i64 _ h0 hk, he, hz]
  rfl
theorem SRd.slice {w : World} {v : Value} {ws : List Word} (h : SRd w v ws) : ∃ a cap, v = .slice a ws.length cap ∧ ws.length ≤ cap := by
  obtain ⟨a, cap, h0, h1, h2, h3⟩ := h.out
  exact ⟨a, cap, h0, h1⟩
structure CRd (w : World) (p : Nat) (v : Value) : Prop where
  at_ : w.heap[p]? = some (.cells #[v] 67)
theorem CRd.lt {w : World} {p : Nat} {v : Value} (h : CRd w p v) : p < w.heap.size := (Array.getElem?_eq_some_iff.1 h.at_).1
theorem CRd.c0 {w : World} {p : Nat} {v : Value} (h : CRd w p v) : w.cell? ⟨p, 0, none⟩ = some v := by simp [World.cell?, h.at_]
theorem CRd.c1 {w : World} {p : Nat} {v : Value} (h : CRd w p v) (i : Nat) : w.cell? ⟨p, i + 1, none⟩ = none := by simp [World.cell?, h.at_]
theorem CRd.f {w : World} {p : Nat} {v : Value} (h : CRd w p v) (i : Nat) : w.frozen? ⟨p, i, none⟩ = false := by simp [World.frozen?, h.at_]
theorem CRd.more {w w' : World} {p : Nat} {v : Value} (h : CRd w p v) (hm : More w w') : CRd w' p v := by
  obtain ⟨x, n, rfl⟩ := hm
  exact ⟨by rw [plus_block _ _ _ _ h.lt]; exact h.at_⟩
def cset (w : World) (p : Nat) (v : Value) : World := w.setCell ⟨p, 0, none⟩ v
theorem cset_block {w : World} {p : Nat} {v : Value} (h : CRd w p v) (v' : Value) : (cset w p v').heap[p]? = some (.cells #[v'] 67) := by
  simp [cset, World.setCell, Array.getElem?_modify, h.at_]
theorem cset_other (w : World) (p b : Nat) (v : Value) (h : b ≠ p) : (cset w p v).heap[b]? = w.heap[b]? := by
  simp [cset, World.setCell, Array.getElem?_modify, Ne.symm h]
theorem CRd.cset {w : World} {p : Nat} {v : Value} (h : CRd w p v) (v' : Value) : CRd (cset w p v') p v' := ⟨cset_block h v'⟩
@[go_sem] theorem cset_size (w : World) (p : Nat) (v : Value) : (cset w p v).heap.size = w.heap.size := by simp [Go.Proofs.YtifoekadjnlhcaaGreatDoor.cset, World.setCell]
@[go_sem] theorem cset_drawn (w : World) (p : Nat) (v : Value) : (cset w p v).drawn = w.drawn := rfl
theorem SRd.cset {w : World} {p : Nat} {v u : Value} {ws : List Word} (h : SRd w u ws) (hr : CRd w p v) (hv : ∀ s, v ≠ .string s) (v' : Value) : SRd (cset w p v') u ws := by
  obtain ⟨a, cap, hu, h1, h2, h3⟩ := h.out
  refine ⟨⟨a, cap, hu, h1, h2, fun hne => ?_⟩, h.small⟩
  obtain ⟨b, off, ha, hb, hc⟩ := h3 hne
  refine ⟨b, off, ha, by rw [cset_size]; exact hb, fun i s hs => ?_⟩
  have hbp : b ≠ p := by
    intro h; subst h
    obtain ⟨x, l, rfl⟩ : ∃ x l, ws = x :: l := by
      cases ws with
      | nil => exact absurd rfl hne
      | cons x l => exact ⟨x, l, rfl⟩
    have h0 := hc 0 x rfl
    rw [Nat.add_zero] at h0
    match off, h0 with
    | 0, h0 => rw [hr.c0] at h0; exact hv _ (Option.some.inj h0)
    | k + 1, h0 => rw [hr.c1] at h0; cases h0
  rw [← hc i s hs]
  simp only [World.cell?, cset_other w p b v' hbp]
@[go_sem] theorem cset_wd_old (w : World) (L : List (Array Obj)) (n p : Nat) (v : Value) (hp : p < w.heap.size) : cset (wd w L n) p v = wd (cset w p v) L n := by
  unfold cset
  rw [wd_set_old w L n p 0 v hp]
@[go_sem] theorem cset_wd (w : World) (L : List (Array Obj)) (n B : Nat) (S : List Nat) (u1 : Value) (t : TypeId) (v : Value) (hB : B = w.heap.size) (hS : shape L = S) :
    cset (wd w (#[.cells #[u1] t] :: L) n) (sz B S) v = wd w (#[.cells #[v] t] :: L) n := by
  unfold cset
  rw [wd_set w L n B 0 S _ t (0, 0) v hB hS]
  rfl
@[go_sem] theorem cset_wd_past (w : World) (L : List (Array Obj)) (n B : Nat) (S : List Nat) (s : Array Obj) (v : Value) (hB : B = w.heap.size) (hS : inn S (shape L)) :
    cset (wd w (s :: L) n) (sz B S) v = onTop s (cset (wd w L n) (sz B S) v) := by
  have hlt : sz B S < (wd w L n).heap.size := by subst hB; rw [wd_size]; exact inn_lt _ hS
  have e1 : wd w (s :: L) n = plus (wd w L n) s n := rfl
  rw [e1]
  unfold cset onTop
  rw [plus_setCell _ _ _ _ _ _ hlt]
  rfl
@[go_sem] theorem cset_plus (w : World) (x : Array Obj) (n p : Nat) (v : Value) (hp : p < w.heap.size) : cset (plus w x n) p v = plus (cset w p v) x n := by
  unfold cset
  rw [plus_setCell _ _ _ _ _ _ hp]
theorem cset_self {w : World} {p : Nat} {v : Value} (h : CRd w p v) : cset w p v = w := setCell_self h.c0
@[go_sem] theorem cset_cset (w : World) (p : Nat) (v v' : Value) : cset (cset w p v) p v' = cset w p v' := by
  refine world_ext ?_ rfl rfl rfl rfl
  apply Array.ext_getElem?
  intro j
  simp only [cset, World.setCell, Array.getElem?_modify]
  by_cases hj : p = j
  · subst hj
    simp only [if_true]
    cases ho : w.heap[p]? with
    | none => rfl
    | some o =>
      cases o <;> simp
  · simp [hj]
structure CS (w : World) (p : Nat) (v : Value) (ws : List Word) : Prop where
  rd : CRd w p v
  words : SRd w v ws
theorem CS.more {w w' : World} {p : Nat} {v : Value} {ws : List Word} (h : CS w p v ws) (hm : More w w') : CS w' p v ws := ⟨h.rd.more hm, h.words.more hm⟩
theorem SRd.ns {w : World} {v : Value} {ws : List Word} (h : SRd w v ws) : ∀ s, v ≠ .string s := by
  obtain ⟨a, cap, rfl, _⟩ := h.out
  intro s h; cases h
theorem CS.step {w : World} {p : Nat} {v v' : Value} {ws r : List Word} (h : CS w p v ws) (hk : ∀ W0, SRd W0 v ws → SRd W0 v' r) : CS (Go.Proofs.YtifoekadjnlhcaaGreatDoor.cset w p v') p v' r := ⟨h.rd.cset v', hk _ (h.words.cset h.rd h.words.ns v')⟩
structure CTk (w w' : World) (p : Nat) (v : Value) (ws r : List Word) : Prop where
  out : ∃ v' x n, (∀ W0, SRd W0 v ws → SRd W0 v' r) ∧ w' = plus (cset w p v') x n
structure CNo (w w' : World) (x : Ending) (p : Nat) : Prop where
  out : ∃ v' e n, x = .panicked [{ v := .iface 64 (.agg #[]), recovered := false }] ∧ w' = plus (cset w p v') e n
theorem str_app (a b : List UInt8) : str a ++ str b = str (a ++ b) := by
  apply ByteArray.ext
  simp [str]
theorem sadd {P : Program} (a b : List UInt8) (h : a.length + b.length ≤ 9223372036854775807) (W : World) : (Op.stringOp .add (str a) (str b)).run P W = .ok (.string (str (a ++ b))) W := by
  have h2 : ¬ ((((str a).size + (str b).size : Nat) : Int) > IntKind.i64.max) := by
    rw [str_size, str_size, show IntKind.i64.max = 9223372036854775807 from rfl]; omega
  unfold Op.stringOp
  simp only
  rw [if_neg h2, str_app]
  rfl
theorem sindex {P : Program} (t : TypeId) (ht : P.underlying t = some .string) (l : List UInt8) (k : Nat) (c : UInt8) (h : l[k]? = some c) (W : World) : (Instr.index t (.string (str l)) (.int .i64 (k : Int))).run P W = .ok (.int .u8 c.toNat) W := by
  obtain ⟨hk, hc⟩ := List.getElem?_eq_some_iff.1 h
  rw [run_index_string W t (str l) .i64 k ht, dif_pos ⟨by omega, by rw [str_size]; omega⟩]
  subst hc
  rfl
theorem sslice {P : Program} (t : TypeId) (ht : P.underlying t = some .string) (l : List UInt8) (k1 k2 : IntKind) (i j : Nat) (hij : i ≤ j) (hj : j ≤ l.length) (W : World) :
    (Instr.slice t (.string (str l)) (some (.int k1 (i : Int))) (some (.int k2 (j : Int))) none).run P W = .ok (.string (str ((l.take j).drop i))) W := by
  rw [run_slice_string (w := W) t (str l) k1 k2 i j ht (by omega) (by omega) (by rw [str_size]; omega)]
  congr 2
  apply ByteArray.ext
  simp [str, List.extract_eq_take_drop, List.drop_take]
theorem take_drop_one (l : List UInt8) (k : Nat) (c : UInt8) (h : l[k]? = some c) : (l.take (k + 1)).drop k = [c] := by
  obtain ⟨hk, rfl⟩ := List.getElem?_eq_some_iff.1 h
  rw [List.take_succ_eq_append_getElem hk, List.drop_append_of_le_length (by simp; omega), List.drop_of_length_le (by rw [List.length_take]; omega)]
  rfl
abbrev gone : Ending := .panicked [{ v := .iface 64 (.agg #[]), recovered := false }]
theorem need_yes (w : World) : Calls Tryz.prog 26 #[.bool true] w fun e w' => e = .returned (.tuple #[]) ∧ More w w' := by
  refine calls_wd ?_
  go_enter Tryz.func26, Tryz.ntmps26
  go_wp2
  first | go_end0 | refine bodyPost_ret (results_none rfl _ _ _) rfl ?_
  exact ⟨rfl, more_wd _ _ _⟩
theorem need_no (w : World) : Calls Tryz.prog 26 #[.bool false] w fun e w' => e = gone ∧ More w w' := by
  refine calls_wd ?_
  go_enter Tryz.func26, Tryz.ntmps26
  go_wp2
  exact ⟨rfl, rfl, more_wd _ _ _⟩
theorem need_yesB (w : World) {b : Bool} (h : b = true) : Calls Tryz.prog 26 #[.bool b] w fun e w' => e = .returned (.tuple #[]) ∧ More w w' := by subst h; exact need_yes w
theorem need_noB (w : World) {b : Bool} (h : b = false) : Calls Tryz.prog 26 #[.bool b] w fun e w' => e = gone ∧ More w w' := by subst h; exact need_no w
theorem cno_m {w W1 : World} {p : Nat} {v' : Value} (h : More (cset w p v') W1) (L : List (Array Obj)) (n : Nat) : CNo w (wd W1 L n) gone p := by
  obtain ⟨x, k, hx⟩ := h.trans (more_wd W1 L n)
  exact ⟨v', x, k, rfl, hx⟩
theorem ctk_m {w W1 : World} {p : Nat} {v v' : Value} {ws r : List Word} (hm : More (cset w p v') W1) (L : List (Array Obj)) (n : Nat) (h : ∀ W0, SRd W0 v ws → SRd W0 v' r) : CTk w (wd W1 L n) p v ws r := by
  obtain ⟨x, k, hx⟩ := hm.trans (more_wd W1 L n)
  exact ⟨v', x, k, h, hx⟩
theorem sz_strR : ∀ w, (Go.sizeOf 9).run Tryz.prog w = .ok 1 w := fun w => Tryz.sizeOf9 w
set_option maxRecDepth 100000 in
set_option maxHeartbeats 800000 in
theorem text_yes (p : Nat) (v : Value) (s : Word) (ws : List Word) (w : World) (hr : CRd w p v) (hv : SRd w v (s :: ws)) :
    Calls Tryz.prog 48 #[.pointer (some ⟨p, 0, none⟩)] w fun e w' => e = .returned (.string (str s)) ∧ CTk w w' p v (s :: ws) ws := by
  have HR := Lib.hid hr
  have hs := srd_slice (P := Tryz.prog) 39 9 Tryz.underlying39 sz_strR hv 1 (by omega) (by simp; omega)
  obtain ⟨a2, cap2, hd, _⟩ := (hv.drop 1 (by simp)).out
  have HD : Hid (∀ W0, SRd W0 v (s :: ws) → SRd W0 (dropV v 1) ws) := Lib.hid (fun W0 h => h.drop 1 (by simp))
  rw [show (1 : Int).toNat = 1 from rfl, hd] at hs
  rw [hd] at HD
  obtain ⟨a, cap, rfl, hcap, hm, hc⟩ := hv.out
  obtain ⟨b, off, rfl, hb, hcell⟩ := hc (by simp)
  have c0 := hcell 0 s rfl
  rw [Nat.add_zero] at c0
  generalize (List.drop 1 (s :: ws)).length = n2 at hs HD
  have hlen : (s :: ws).length = ws.length + 1 := rfl
  obtain ⟨N, hN⟩ : ∃ N, ws.length = N := ⟨_, rfl⟩
  rw [hlen, hN] at hs HR hcap hr
  have hr0 := hr.c0
  have hf0 := hr.f 0
  have hlt := hr.lt
  have HN := Lib.hid (show Value.slice (some ⟨b, off, none⟩) (s :: ws).length cap = Value.slice (some ⟨b, off, none⟩) (N + 1) cap by rw [hlen, hN])
  rw [HN.out] at HD
  have HZ := Lib.hid hN
  clear hcell hc hd hr hv hlen hN
  refine calls_wd ?_
  go_enter Tryz.func48, Tryz.ntmps48
  go_wp2_with (first | (go_at_call 26; ((with_reducible refine (need_yes _).mono ?_); rintro e w1 ⟨rfl, x1, n1, rfl⟩)))
  go_ret
  exact ⟨rfl, ⟨_, x1, n1, fun W0 h => HD.out W0 (by rw [← HZ.out]; exact h), rfl⟩⟩
theorem text_no (p : Nat) (v : Value) (w : World) (hr : CRd w p v) (hv : SRd w v []) : Calls Tryz.prog 48 #[.pointer (some ⟨p, 0, none⟩)] w fun e w' => CNo w w' e p := by
  have HR := Lib.hid hr
  obtain ⟨a, cap, rfl, hcap, hm, hc⟩ := hv.out
  have hr0 : w.cell? ⟨p, 0, none⟩ = some (.slice a 0 cap) := hr.c0
  have hlt := hr.lt
  clear hr hv hc
  refine calls_wd ?_
  go_enter Tryz.func48, Tryz.ntmps48
  go_wp2_with (first | (go_at_call 26; ((with_reducible refine (need_no _).mono ?_); rintro e w1 ⟨rfl, x1, n1, rfl⟩)))
  exact ⟨rfl, ⟨_, _, _, rfl, (by rw [cset_self HR.out]; rfl)⟩⟩
theorem take_snoc' {α : Type} {l : List α} {k : Nat} {x : α} (h : l[k]? = some x) : l.take (k + 1) = l.take k ++ [x] := by
  rw [List.take_add_one, h]; rfl
theorem cno_of (w : World) (p : Nat) (v' : Value) (L : List (Array Obj)) {n : Nat} : CNo w (wd (cset w p v') L n) gone p := by
  obtain ⟨x, k, h⟩ := more_wd (cset w p v') L n
  exact ⟨v', x, k, rfl, h⟩
theorem ctk_of {w : World} {p : Nat} {v v' : Value} {ws r : List Word} (L : List (Array Obj)) (n : Nat) (h : ∀ W0, SRd W0 v ws → SRd W0 v' r) : CTk w (wd (cset w p v') L n) p v ws r := by
  obtain ⟨x, k, hx⟩ := more_wd (cset w p v') L n
  exact ⟨v', x, k, h, hx⟩
structure NumRet (w w' : World) (e : Ending) (p : Nat) (v : Value) (ws : List Word) : Prop where
  out : match tkN ws with
    | none => CNo w w' e p
    | some (n, r) => e = .returned (.int .i64 n) ∧ CTk w w' p v ws r
theorem numret_no {w w' : World} {e : Ending} {p : Nat} {v : Value} {ws : List Word} (h : tkN ws = none) (hn : CNo w w' e p) : NumRet w w' e p v ws := ⟨by rw [h]; exact hn⟩
theorem numret_yes {w w' : World} {e : Ending} {p : Nat} {v : Value} {ws r : List Word} {n : Nat} (h : tkN ws = some (n, r)) (he : e = .returned (.int .i64 n)) (hk : CTk w w' p v ws r) : NumRet w w' e p v ws := ⟨by rw [h]; exact ⟨he, hk⟩⟩
theorem tkN_head {s : Word} {ws : List Word} (h : headB s = false) : tkN (s :: ws) = none := by
  unfold tkN numW
  dsimp only
  rw [if_neg (by rw [h]; simp)]
theorem tkN_dig {s : Word} {ws : List Word} {x : UInt8} (hx : x ∈ s) (h : digB x = false) : tkN (s :: ws) = none := by
  unfold tkN numW
  dsimp only
  rw [if_neg]
  rintro ⟨_, h2⟩
  rw [List.all_eq_true] at h2
  rw [h2 x hx] at h; cases h
theorem tkN_ok {s : Word} {ws : List Word} (h1 : headB s = true) (h2 : s.all digB = true) : tkN (s :: ws) = some (valW s, ws) := by
  unfold tkN numW
  dsimp only
  rw [if_pos ⟨h1, h2⟩]
set_option maxRecDepth 100000 in
set_option maxHeartbeats 1600000 in
theorem number_any (p : Nat) (v : Value) (ws : List Word) (w : World) (hr : CRd w p v) (hv : SRd w v ws) :
    Calls Tryz.prog 50 #[.pointer (some ⟨p, 0, none⟩)] w fun e w' => NumRet w w' e p v ws := by
  cases ws with
  | nil =>
    have HT := Lib.hid (fun W hm => text_no p v W (hr.more (w' := W) hm) (hv.more hm))
    have hlt := hr.lt
    clear hr hv
    refine calls_wd ?_
    go_enter Tryz.func50, Tryz.ntmps50
    go_wp2_with (first | (go_at_call 48; refine (HT.out _ (more_wd _ _ _)).mono ?_; rintro e w1 hs; obtain ⟨v2, x2, n2, rfl, rfl⟩ := hs.out; clear hs))
    exact ⟨rfl, numret_no rfl (cno_of _ _ _ _)⟩
  | cons s0 r =>
    have HT := Lib.hid (fun W hm => text_yes p v s0 r W (hr.more (w' := W) hm) (hv.more hm))
    have hsz := str_size s0
    have hlen := hv.small s0 (by simp)
    have hlt := hr.lt
    clear hr hv
    cases s0 with
    | nil =>
      have HNO : Hid (tkN ([] :: r) = none) := Lib.hid (tkN_head rfl)
      have hq0 : (str []).toList.isEmpty = true := by rw [str_toList]; rfl
      refine calls_wd ?_
      go_enter Tryz.func50, Tryz.ntmps50
      go_wp2_with (first
        | (go_at_call 48; refine (HT.out _ (more_wd _ _ _)).mono ?_; rintro e w1 ⟨rfl, hk⟩; obtain ⟨v2, x2, n2, hk2, rfl⟩ := hk.out; clear hk; have HK2 := Lib.hid hk2; clear hk2)
        | (go_at_call 26; ((with_reducible refine (need_no _).mono ?_); rintro e w1 ⟨rfl, x1, n1, rfl⟩)))
      exact ⟨rfl, numret_no HNO.out (cno_of _ _ _ _)⟩
    | cons c s =>
      obtain ⟨t, ht⟩ : ∃ t, c :: s = t := ⟨_, rfl⟩
      have hi0 : ∀ W, (Instr.index 9 (.string (str (c :: s))) (.int .i64 0)).run Tryz.prog W = .ok (.int .u8 c.toNat) W := fun W => sindex (P := Tryz.prog) 9 Tryz.underlying9 (c :: s) 0 c rfl W
      have hne : c :: s ≠ [] := by simp
      have h0 : (c :: s)[0]? = some c := rfl
      have hq0 : (str (c :: s)).toList.isEmpty = false := by rw [str_toList]; rfl
      have hq1 : ((str (c :: s)).toList == [48]) = decide (c :: s = [48]) := by rw [str_toList, Bool.eq_iff_iff]; simp
      rw [ht] at hi0 hne h0 hq0 hq1 hsz hlen HT ⊢
      clear ht
      have hcl := c.toNat_lt
      obtain ⟨y0, hy0⟩ : ∃ y : Nat, c.toNat = y := ⟨_, rfl⟩
      rw [hy0] at hi0 hcl
      by_cases hl : t.length ≤ 12
      · by_cases h1 : t = [48]
        · rw [decide_eq_true h1] at hq1
          have HH : Hid (headB t = true) := Lib.hid (by rw [h1]; rfl)
          clear h1 hi0
          refine calls_wd ?_
          go_enter Tryz.func50, Tryz.ntmps50
          go_wp2_with (first
            | (go_at_call 48; refine (HT.out _ (more_wd _ _ _)).mono ?_; rintro e w1 ⟨rfl, hk⟩; obtain ⟨v2, x2, n2, hk2, rfl⟩ := hk.out; clear hk; have HK2 := Lib.hid hk2; clear hk2)
            | (go_at_call 26; ((with_reducible refine (need_yes _).mono ?_); rintro e w1 ⟨rfl, x1, n1, rfl⟩))
            | (show wpList _ _ _ (⟨_, .convert 9 28 _, _, _, _, _⟩ :: _) _ _; refine at_conv rfl _ rfl rfl (by omega) ?_; intro ad cap mm hrb; have HB0 := Lib.hid hrb; clear hrb))
          obtain ⟨W1, hW1⟩ : ∃ W1, wd (cset w p v2) [mm.e, x1, x2] mm.n = W1 := ⟨_, rfl⟩
          have HM1 : Hid (More (cset w p v2) W1) := Lib.hid (hW1 ▸ more_wd _ _ _)
          have HB : Hid (RB W1 (.slice ad t.length cap) t) := Lib.hid (by rw [← hW1]; exact HB0.out _)
          rw [hW1, ← wd_nil W1]
          clear hW1 HB0
          obtain ⟨a9, cap9, h90, h91, h92, h93⟩ := HB.out
          cases h90
          obtain ⟨b9, o9, rfl, hb9, hc9⟩ := h93 hne
          have HC9 := Lib.hid hc9
          clear h91 h92 h93 hc9 HB
          obtain ⟨N, hN⟩ : ∃ N, t.length = N := ⟨_, rfl⟩
          rw [hN]
          have HN := Lib.hid hN
          rw [hN] at hl
          clear hN
          go_loopw [4, 29] (fun s4 s29 wr => ∃ (k : Nat) (V : Nat) (m : Ext), k ≤ N ∧ s4 = .int .i64 V ∧ s29 = .int .i64 k ∧ V < 1000000000000 ∧ Hid (valW (t.take k) = V) ∧ Hid ((t.take k).all digB = true) ∧ wr = wd W1 [m.e] m.n) (fun _ s29 _ => N - (intOf s29).toNat)
          case atStart => exact ⟨0, 0, ⟨#[], W1.drawn⟩, Nat.zero_le _, rfl, rfl, by decide, Lib.hid rfl, Lib.hid rfl, (wd_empty _ _ _).symm⟩
          case round =>
            obtain ⟨k, V, m, hkN, rfl, rfl, hV, HV, HD, rfl⟩ := hrel
            by_cases hk : k < N
            · obtain ⟨x, hx⟩ : ∃ x, t[k]? = some x := ⟨_, List.getElem?_eq_getElem (by rw [HN.out]; exact hk)⟩
              have hcell := HC9.out k (by rw [HN.out]; exact hk)
              rw [bc_get, hx] at hcell
              have HTK := Lib.hid (take_snoc' hx)
              have HMEM := Lib.hid (List.mem_of_getElem? hx)
              have hxl := x.toNat_lt
              obtain ⟨y, hy⟩ : ∃ y : Nat, x.toNat = y := ⟨_, rfl⟩
              have HY := Lib.hid hy
              have hcell2 : W1.cell? ⟨b9, o9 + k, none⟩ = some (.int .u8 (y : Int)) := by rw [hcell, ← hy]; rfl
              rw [hy] at hxl
              clear hx hcell hy
              by_cases hd1 : 48 ≤ y
              · by_cases hd2 : y ≤ 57
                · have hv2 : V * 10 + (y - 48) < 1000000000000 := by
                    have h1 := valW_lt (k + 1) (t.take (k + 1)) (by rw [List.length_take]; omega) (by rw [HTK.out, List.all_append, HD.out]; simp [digB, HY.out, hd1, hd2])
                    rw [HTK.out, valW_snoc, HV.out, HY.out] at h1
                    exact Nat.lt_of_lt_of_le h1 (Nat.pow_le_pow_right (by decide) (show k + 1 ≤ 12 by omega))
                  go_wp2_with (first | (go_at_call 26; ((with_reducible refine (need_yesB _ (by first | rfl | exact decide_eq_true (by omega))).mono ?_); rintro e w1 ⟨rfl, x1, n1, rfl⟩)))
                  go_roundw
                  case rel => exact ⟨k + 1, V * 10 + (y - 48), ⟨m.e ++ _, _⟩, by omega, by go_num, by go_num, hv2, Lib.hid (by rw [HTK.out, valW_snoc, HV.out, HY.out]), Lib.hid (by rw [HTK.out, List.all_append, HD.out]; simp [digB, HY.out, hd1, hd2]), by rw [wd_merge]⟩
                  case measure => simp [intOf]; omega
                · have hdb : decide ((y : Int) ≤ 57) = false := decide_eq_false (by omega)
                  have HNO : Hid (tkN (t :: r) = none) := Lib.hid (tkN_dig HMEM.out (by simp [digB, HY.out, hd2]))
                  go_wp2_with (first | (go_at_call 26; ((with_reducible refine (need_no _).mono ?_); rintro e w1 ⟨rfl, x1, n1, rfl⟩)))
                  exact ⟨rfl, numret_no HNO.out (cno_m HM1.out _ _)⟩
              · have hdb : decide ((48 : Int) ≤ (y : Int)) = false := decide_eq_false (by omega)
                have HNO : Hid (tkN (t :: r) = none) := Lib.hid (tkN_dig HMEM.out (by simp [digB, HY.out, hd1]))
                go_wp2_with (first | (go_at_call 26; ((with_reducible refine (need_no _).mono ?_); rintro e w1 ⟨rfl, x1, n1, rfl⟩)))
                exact ⟨rfl, numret_no HNO.out (cno_m HM1.out _ _)⟩
            · obtain rfl : k = N := by omega
              go_wp2
              go_ret
              rw [List.take_of_length_le (by rw [HN.out]; exact Nat.le_refl _)] at HV HD
              exact numret_yes (tkN_ok HH.out HD.out) (by rw [HV.out]; rfl) (ctk_m HM1.out _ _ HK2.out)
        · rw [decide_eq_false h1] at hq1
          by_cases h2 : y0 = 48
          · have HNO : Hid (tkN (t :: r) = none) := Lib.hid (tkN_head (by
              have hc : c = 48 := UInt8.toNat_inj.1 (by rw [hy0, h2]; rfl)
              unfold headB
              rw [h0, hc, decide_eq_false h1]
              simp))
            subst h2
            clear h1
            refine calls_wd ?_
            go_enter Tryz.func50, Tryz.ntmps50
            go_wp2_with (first
              | (go_at_call 48; refine (HT.out _ (more_wd _ _ _)).mono ?_; rintro e w1 ⟨rfl, hk⟩; obtain ⟨v2, x2, n2, hk2, rfl⟩ := hk.out; clear hk; have HK2 := Lib.hid hk2; clear hk2)
              | (go_at_call 26; ((with_reducible refine (need_no _).mono ?_); rintro e w1 ⟨rfl, x1, n1, rfl⟩)))
            exact ⟨rfl, numret_no HNO.out (cno_of _ _ _ _)⟩
          · have hyb : ((y0 : Int) == 48) = false := by rw [beq_eq_false_iff_ne]; omega
            have hyb2 : ((y0 : Int) != 48) = true := by rw [bne_iff_ne]; omega
            have HH : Hid (headB t = true) := Lib.hid (by
              have hc : c ≠ 48 := fun hc => h2 (by rw [← hy0, hc]; rfl)
              unfold headB
              rw [h0]
              simp [hne, hl, hc])
            clear h1
            refine calls_wd ?_
            go_enter Tryz.func50, Tryz.ntmps50
            go_wp2_with (first
              | (go_at_call 48; refine (HT.out _ (more_wd _ _ _)).mono ?_; rintro e w1 ⟨rfl, hk⟩; obtain ⟨v2, x2, n2, hk2, rfl⟩ := hk.out; clear hk; have HK2 := Lib.hid hk2; clear hk2)
              | (go_at_call 26; ((with_reducible refine (need_yes _).mono ?_); rintro e w1 ⟨rfl, x1, n1, rfl⟩))
              | (show wpList _ _ _ (⟨_, .convert 9 28 _, _, _, _, _⟩ :: _) _ _; refine at_conv rfl _ rfl rfl (by omega) ?_; intro ad cap mm hrb; have HB0 := Lib.hid hrb; clear hrb))
            obtain ⟨W1, hW1⟩ : ∃ W1, wd (cset w p v2) [mm.e, x1, x2] mm.n = W1 := ⟨_, rfl⟩
            have HM1 : Hid (More (cset w p v2) W1) := Lib.hid (hW1 ▸ more_wd _ _ _)
            have HB : Hid (RB W1 (.slice ad t.length cap) t) := Lib.hid (by rw [← hW1]; exact HB0.out _)
            rw [hW1, ← wd_nil W1]
            clear hW1 HB0
            obtain ⟨a9, cap9, h90, h91, h92, h93⟩ := HB.out
            cases h90
            obtain ⟨b9, o9, rfl, hb9, hc9⟩ := h93 hne
            have HC9 := Lib.hid hc9
            clear h91 h92 h93 hc9 HB
            obtain ⟨N, hN⟩ : ∃ N, t.length = N := ⟨_, rfl⟩
            rw [hN]
            have HN := Lib.hid hN
            rw [hN] at hl
            clear hN
            go_loopw [4, 29] (fun s4 s29 wr => ∃ (k : Nat) (V : Nat) (m : Ext), k ≤ N ∧ s4 = .int .i64 V ∧ s29 = .int .i64 k ∧ V < 1000000000000 ∧ Hid (valW (t.take k) = V) ∧ Hid ((t.take k).all digB = true) ∧ wr = wd W1 [m.e] m.n) (fun _ s29 _ => N - (intOf s29).toNat)
            case atStart => exact ⟨0, 0, ⟨#[], W1.drawn⟩, Nat.zero_le _, rfl, rfl, by decide, Lib.hid rfl, Lib.hid rfl, (wd_empty _ _ _).symm⟩
            case round =>
              obtain ⟨k, V, m, hkN, rfl, rfl, hV, HV, HD, rfl⟩ := hrel
              by_cases hk : k < N
              · obtain ⟨x, hx⟩ : ∃ x, t[k]? = some x := ⟨_, List.getElem?_eq_getElem (by rw [HN.out]; exact hk)⟩
                have hcell := HC9.out k (by rw [HN.out]; exact hk)
                rw [bc_get, hx] at hcell
                have HTK := Lib.hid (take_snoc' hx)
                have HMEM := Lib.hid (List.mem_of_getElem? hx)
                have hxl := x.toNat_lt
                obtain ⟨y, hy⟩ : ∃ y : Nat, x.toNat = y := ⟨_, rfl⟩
                have HY := Lib.hid hy
                have hcell2 : W1.cell? ⟨b9, o9 + k, none⟩ = some (.int .u8 (y : Int)) := by rw [hcell, ← hy]; rfl
                rw [hy] at hxl
                clear hx hcell hy
                by_cases hd1 : 48 ≤ y
                · by_cases hd2 : y ≤ 57
                  · have hv2 : V * 10 + (y - 48) < 1000000000000 := by
                      have h1 := valW_lt (k + 1) (t.take (k + 1)) (by rw [List.length_take]; omega) (by rw [HTK.out, List.all_append, HD.out]; simp [digB, HY.out, hd1, hd2])
                      rw [HTK.out, valW_snoc, HV.out, HY.out] at h1
                      exact Nat.lt_of_lt_of_le h1 (Nat.pow_le_pow_right (by decide) (show k + 1 ≤ 12 by omega))
                    go_wp2_with (first | (go_at_call 26; ((with_reducible refine (need_yesB _ (by first | rfl | exact decide_eq_true (by omega))).mono ?_); rintro e w1 ⟨rfl, x1, n1, rfl⟩)))
                    go_roundw
                    case rel => exact ⟨k + 1, V * 10 + (y - 48), ⟨m.e ++ _, _⟩, by omega, by go_num, by go_num, hv2, Lib.hid (by rw [HTK.out, valW_snoc, HV.out, HY.out]), Lib.hid (by rw [HTK.out, List.all_append, HD.out]; simp [digB, HY.out, hd1, hd2]), by rw [wd_merge]⟩
                    case measure => simp [intOf]; omega
                  · have hdb : decide ((y : Int) ≤ 57) = false := decide_eq_false (by omega)
                    have HNO : Hid (tkN (t :: r) = none) := Lib.hid (tkN_dig HMEM.out (by simp [digB, HY.out, hd2]))
                    go_wp2_with (first | (go_at_call 26; ((with_reducible refine (need_no _).mono ?_); rintro e w1 ⟨rfl, x1, n1, rfl⟩)))
                    exact ⟨rfl, numret_no HNO.out (cno_m HM1.out _ _)⟩
                · have hdb : decide ((48 : Int) ≤ (y : Int)) = false := decide_eq_false (by omega)
                  have HNO : Hid (tkN (t :: r) = none) := Lib.hid (tkN_dig HMEM.out (by simp [digB, HY.out, hd1]))
                  go_wp2_with (first | (go_at_call 26; ((with_reducible refine (need_no _).mono ?_); rintro e w1 ⟨rfl, x1, n1, rfl⟩)))
                  exact ⟨rfl, numret_no HNO.out (cno_m HM1.out _ _)⟩
              · obtain rfl : k = N := by omega
                go_wp2
                go_ret
                rw [List.take_of_length_le (by rw [HN.out]; exact Nat.le_refl _)] at HV HD
                exact numret_yes (tkN_ok HH.out HD.out) (by rw [HV.out]; rfl) (ctk_m HM1.out _ _ HK2.out)
      · have HNO : Hid (tkN (t :: r) = none) := Lib.hid (tkN_head (by unfold headB; simp [hl]))
        have hlb : decide ((t.length : Int) ≤ 12) = false := decide_eq_false (by omega)
        refine calls_wd ?_
        go_enter Tryz.func50, Tryz.ntmps50
        go_wp2_with (first
          | (go_at_call 48; refine (HT.out _ (more_wd _ _ _)).mono ?_; rintro e w1 ⟨rfl, hk⟩; obtain ⟨v2, x2, n2, hk2, rfl⟩ := hk.out; clear hk; have HK2 := Lib.hid hk2; clear hk2)
          | (go_at_call 26; ((with_reducible refine (need_no _).mono ?_); rintro e w1 ⟨rfl, x1, n1, rfl⟩)))
        exact ⟨rfl, numret_no HNO.out (cno_of _ _ _ _)⟩
end Go.Proofs.YtifoekadjnlhcaaGreatDoor
