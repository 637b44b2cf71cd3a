/- console: records in a block that a call made: kept when older blocks are written; a request's words with them. -/
import Derived.Test.YtifoekadjnlhcaaGreatDoorMK
import Derived.Test.YtifoekadjnlhcaaGreatDoorMF
import Derived.Test.YtifoekadjnlhcaaGreatDoorMA
namespace Go.Proofs.YtifoekadjnlhcaaGreatDoor
open Go.ChangeShapes Go.WideShapes Go.ChangeAt Go.RowKit
set_option linter.unusedVariables false
set_option linter.unusedSimpArgs false
structure RecsNew (S : Nat) (w : World) (a : Option Addr) (cap : Nat) (l : List Rec) : Prop where
  nil : l = [] → a = none ∧ cap = 0
  out : l ≠ [] → ∃ b cs el, a = some ⟨b, 0, none⟩ ∧ S ≤ b ∧ w.heap[b]? = some (.cells cs el (0, 0)) ∧ l.length ≤ cap ∧ cap ≤ maxLen ∧ cs.size = cap * 6 ∧ cs.toList.take (l.length * 6) = l.flatMap recCells
theorem RecsNew.zero (S : Nat) (w : World) : RecsNew S w none 0 [] := ⟨fun _ => ⟨rfl, rfl⟩, fun h => absurd rfl h⟩
theorem lt_of_blk {w : World} {b : Nat} {o : Obj} (h : w.heap[b]? = some o) : b < w.heap.size := (Array.getElem?_eq_some_iff.1 h).1
theorem RecsNew.at {S : Nat} {w : World} {a : Option Addr} {cap : Nat} {l : List Rec} (h : RecsNew S w a cap l) : RecsAt w a l := ⟨fun hne => by
  obtain ⟨b, cs, el, h1, h2, h3, h4, h5, h6, h7⟩ := h.out hne
  refine ⟨b, 0, h1, lt_of_blk h3, fun i hi => ?_⟩
  rw [Nat.zero_add]
  simp only [World.cell?, h3]
  rw [← h7, List.getElem?_take, if_pos hi]
  simp⟩
theorem RecsNew.keep {S S' : Nat} {w w' : World} {a : Option Addr} {cap : Nat} {l : List Rec} (h : RecsNew S w a cap l) (hS : S' ≤ S) (hk : ∀ b, S ≤ b → b < w.heap.size → w'.heap[b]? = w.heap[b]?) : RecsNew S' w' a cap l := ⟨h.nil, fun hne => by
  obtain ⟨b, cs, el, h1, h2, h3, h4⟩ := h.out hne
  exact ⟨b, cs, el, h1, Nat.le_trans hS h2, by rw [hk b h2 (lt_of_blk h3)]; exact h3, h4⟩⟩
theorem RecsNew.more {S : Nat} {w w' : World} {a : Option Addr} {cap : Nat} {l : List Rec} (h : RecsNew S w a cap l) (hm : More w w') : RecsNew S w' a cap l := h.keep (Nat.le_refl _) (fun b _ hb => by obtain ⟨x, n, rfl⟩ := hm; exact plus_block _ _ _ _ hb)
theorem recsnew_of_row {w : World} {L : List (Array Obj)} {n : Nat} {e : Array Obj} {E : TypeId} {a : Option Addr} {k c : Nat} {l : List Rec} (h : rowIn w.heap.size (shape L) e E 6 (.slice a k c) k (l.flatMap recCells)) (hl : l.length = k) (h0 : 0 < k) : RecsNew (sz w.heap.size (shape L)) (wd w (e :: L) n) a c l := ⟨fun e => by rw [e] at hl; simp at hl; omega, fun hne => by
  obtain ⟨h1, ⟨h2, h3⟩ | ⟨j, cap, cur, hv, hj, he, hn, hm, hs, hx⟩⟩ := h
  · omega
  · cases hv
    subst hl
    exact ⟨_, cur, E, rfl, Nat.le_add_right _ _, by rw [wd_block_in w L n _ j _ e rfl rfl]; exact he, hn, hm, hs, hx⟩⟩
theorem hp_at (W : World) (x : Array Obj) (L : List (Array Obj)) (n b : Nat) (hb : sz W.heap.size (shape L) ≤ b) : (wd W (x :: L) n).heap[b]? = x[b - sz W.heap.size (shape L)]? := by
  have e1 : wd W (x :: L) n = plus (wd W L n) x n := rfl
  rw [e1]
  have h1 : (wd W L n).heap.size = sz W.heap.size (shape L) := wd_size _ _ _
  show ((wd W L n).heap ++ x)[b]? = _
  rw [Array.getElem?_append_right (by rw [h1]; exact hb), h1]
theorem sz_le (B : Nat) : ∀ (S : List Nat), B ≤ sz B S
  | [] => Nat.le_refl _
  | x :: S => by simp only [sz]; have := sz_le B S; omega
theorem RecsNew.wd {w : World} {L L' : List (Array Obj)} {n k m p : Nat} {v : Value} {x : Array Obj} {a : Option Addr} {cap : Nat} {l : List Rec} (h : RecsNew (wd w L n).heap.size (plus (cset (wd w L n) p v) x k) a cap l) (hp : p < w.heap.size) (hL : shape L' = shape L) :
    RecsNew w.heap.size (Go.Proofs.YtifoekadjnlhcaaGreatDoor.wd (cset w p v) (x :: L') m) a cap l := by
  have hS : (Go.Proofs.YtifoekadjnlhcaaGreatDoor.wd w L n).heap.size = sz w.heap.size (shape L) := wd_size _ _ _
  rw [cset_wd_old _ _ _ _ _ hp, wd_plus, hS] at h
  refine h.keep (sz_le _ _) (fun b hb _ => ?_)
  rw [hp_at, hp_at]
  · rw [cset_size, hL]
  · rw [cset_size]; exact hb
  · rw [cset_size, hL]; exact hb
theorem RecsNew.over {S : Nat} {w : World} {L : List (Array Obj)} {n m : Nat} {y : Array Obj} {a : Option Addr} {cap : Nat} {l : List Rec} (h : RecsNew S (Go.Proofs.YtifoekadjnlhcaaGreatDoor.wd w L n) a cap l) : RecsNew S (Go.Proofs.YtifoekadjnlhcaaGreatDoor.wd w (y :: L) m) a cap l := h.more ⟨y, m, rfl⟩
structure ReqGet (w w' : World) (e : Ending) (p : Nat) (v : Value) (t : Word) (ws : List Word) : Prop where
  out : match requestW t ws with
    | none => CNo w w' e p
    | some (some q, r) => ∃ a cap, e = .returned (.tuple #[.agg (rq q a cap), .bool true]) ∧ CTk w w' p v ws r ∧ RecsNew w.heap.size w' a cap q.batch.recs
    | some (none, r) => e = .returned (.tuple #[.agg (rq (reqBlank 0) none 0), .bool false]) ∧ CTk w w' p v ws r
theorem reqOf_recs (k : Nat) (vs : List TV) : (reqOf k vs).batch.recs = [] := by unfold reqOf; split <;> rfl
theorem ReqRet.get {w w' : World} {e : Ending} {p : Nat} {v : Value} {t : Word} {ws : List Word} {k : Nat} {sh : List TK} (h : ReqRet w w' e p v t ws) (hs : reqSh t = some (k, sh)) : ReqGet w w' e p v t ws := ⟨by
  have h1 := h.out
  rw [requestW_sh hs] at h1 ⊢
  cases hq : tkAll sh ws with
  | none => rw [hq] at h1; exact h1
  | some c =>
    obtain ⟨vs, r⟩ := c
    rw [hq] at h1
    obtain ⟨h2, h3⟩ := h1
    exact ⟨none, 0, h2, h3, by rw [reqOf_recs]; exact RecsNew.zero _ _⟩⟩
end Go.Proofs.YtifoekadjnlhcaaGreatDoor
