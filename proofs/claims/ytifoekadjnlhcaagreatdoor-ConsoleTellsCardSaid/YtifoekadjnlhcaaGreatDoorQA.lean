/- Rows of strings that are owned, and read (the parts of XCRc that tell needs). -/
import Derived.Test.YtifoekadjnlhcaaGreatDoorMG
import Derived.Test.YtifoekadjnlhcaaGreatDoorMX
import Derived.Test.YtifoekadjnlhcaaGreatDoorMN
import Derived.Test.YtifoekadjnlhcaaGreatDoorME
namespace Go.Proofs.YtifoekadjnlhcaaGreatDoor
open Go.ChangeShapes Go.WideShapes Go.ChangeAt Go.RowKit
set_option linter.unusedVariables false
set_option linter.unusedSimpArgs false
def sCell (s : Word) : Value := .string (str s)
theorem own_get {W : World} {B : Nat} {E : TypeId} {g n cap : Nat} {xs : List Value} (h : W.ownsRow B E 1 (.slice (some ⟨g, 0, none⟩) n cap) n xs) (i : Nat) (x : Value) (hx : xs[i]? = some x) : W.cell? ⟨g, i, none⟩ = some x := by
  obtain ⟨cur, he, _, hn, hm, hs, ht, hl⟩ := owns_block h
  simp only [World.cell?, he]
  have hi : i < n * 1 := by have := (List.getElem?_eq_some_iff.1 hx).1; omega
  rw [← ht, List.getElem?_take, if_pos hi] at hx
  simpa using hx
theorem own_shape {W : World} {B size n : Nat} {E : TypeId} {v : Value} {xs : List Value} (h : W.ownsRow B E size v n xs) : (v = .slice none 0 0 ∧ n = 0) ∨ ∃ g cap, v = .slice (some ⟨g, 0, none⟩) n cap ∧ n ≤ cap ∧ cap ≤ maxLen := by
  rcases h.2 with h2 | ⟨g, cap, cur, hv, _, _, hn, hm, _⟩
  · exact .inl h2
  · exact .inr ⟨g, cap, hv, hn, hm⟩
theorem srd_own {W : World} {B : Nat} {v : Value} {l : List Word} (h : W.ownsRow B 9 1 v l.length (l.map sCell)) (hs : ∀ s ∈ l, s.length ≤ 1099511627776) : SRd W v l := by
  rcases own_shape h with ⟨rfl, h0⟩ | ⟨g, cap, rfl, hn, hm⟩
  · have : l = [] := List.eq_nil_of_length_eq_zero h0
    subst this
    exact ⟨⟨none, 0, rfl, Nat.le_refl _, Nat.zero_le _, fun h => absurd rfl h⟩, hs⟩
  · exact ⟨⟨_, cap, rfl, hn, hm, fun _ => ⟨g, 0, rfl, owns_lt h, fun i s hi => by rw [Nat.zero_add]; exact own_get h i _ (by rw [List.getElem?_map, hi]; rfl)⟩⟩, hs⟩
theorem wp_append_base {P : Program} {ops : Array Oper} {rest : List Oper} {o : Oper} {a : Act} {Q : Exit → Act → World → Prop} (hgd : o.guard = none) (s x : Operand) (t : TypeId)
    (ho : o.op = .call { callee := .builtin .append, args := #[s, x], argTypes := #[t, t] })
    (B : Nat) (e : TypeId) (i : TypeInfo) (z : Value) (size bytes : Nat) (ht : P.underlying t = some (.slice e)) (hi : P.info? e = some i) (hz : i.zero = some z)
    (hsize : i.size = size) (hby : i.bytes = bytes) (hzs : z.cells.size = size) (hsz : 0 < size)
    {w : World} {L : List (Array Obj)} {n : Nat} (v : Value) (k : Nat) (xs : List Value) (hs : a.eval s = v) (hown : w.ownsRow B e size v k xs)
    (C : Array Value) (t' : TypeId) (q c : Nat) (hx : a.eval x = .slice (some ⟨sz w.heap.size (shape L), 0, none⟩) q c) (hl : C.size = q * size) (h1 : ∀ u ∈ C.toList, u.oneCell' = true)
    (h63 : k + q ≤ maxLen) (hbytes : (k + q) * bytes ≤ 140737488355328) (hB : B ≤ w.heap.size)
    (h : ∀ (v' : Value) (u : World), u.ownsRow B e size v' (k + q) (xs ++ C.toList) → w.grownBy u v.ownBlock → wpList P ops Q rest (a.put o.dst v') (wd u [] u.drawn)) :
    wpList P ops Q (o :: rest) a (wd w (#[.cells C t'] :: L) n) := by
  have hm : More w (wd w (#[.cells C t'] :: L) n) := more_wd _ _ _
  refine wpList_append_own _ hgd s x t ho B e i z size bytes ht hi hz hsize hby hzs hsz v k xs hs (owns_more hown hm) _ q c C.toList hx (by simpa using hl) (fun j u hu => ?_) h1 h63 hbytes (by rw [wd_size, shape_cons]; have := sz_le w.heap.size (shape L); simp only [sz]; omega) ?_
  · have e1 : ((⟨sz w.heap.size (shape L), 0, none⟩ : Addr).add j) = ⟨sz w.heap.size (shape L), j, none⟩ := by
      unfold Addr.add; split <;> simp_all
    rw [e1, wd_cell w L n w.heap.size j (shape L) C t' (0, 0) rfl rfl]
    simpa using hu
  · intro v' w' hown' hg _
    exact h v' w' hown' (grown_trans (grown_more hm _) hg)
section
variable {w u u' : World} {v' : Value}
theorem more_grown {B : Nat} {v : Value} {E : TypeId} {n : Nat} {xs : List Value} (hm : More w u) (ho : u.ownsRow w.heap.size E 1 v n xs) (hg : u.grownBy u' v.ownBlock) : More w u' :=
  more_of_below (hm.below.grown hg hm.below.size (fun k hk => (ho.lt k hk).1))
end
theorem info_str3 : (Tryz.prog.info? 9).map (fun i => (i.zero, i.size, i.bytes)) = some (some (.string ByteArray.empty), 1, 16) := by kernel_rfl
end Go.Proofs.YtifoekadjnlhcaaGreatDoor
namespace Go.Proofs.YtifoekadjnlhcaaGreatDoor
open Go.ChangeShapes Go.WideShapes Go.ChangeAt Go.RowKit
set_option linter.unusedVariables false
set_option linter.unusedSimpArgs false
structure BoolRet (w w' : World) (x : Ending) : Prop where
  out : ∃ b, x = .returned (.bool b) ∧ More w w'
theorem bret_wd (w : World) (L : List (Array Obj)) (n : Nat) (b : Bool) : BoolRet w (wd w L n) (.returned (.bool b)) := ⟨b, rfl, more_wd _ _ _⟩
set_option maxRecDepth 100000 in
set_option maxHeartbeats 1600000 in
theorem light_rec (delta time : Int) (keyed dead : Bool) (key value : List UInt8) (w : World) : Calls Tryz.prog 80 #[.agg #[.int .i64 delta, .int .i64 time, .bool keyed, .string (str key), .bool dead, .string (str value)]] w fun x w' => BoolRet w w' x := by
  refine calls_wd ?_
  go_enter Tryz.func80, Tryz.ntmps80
  go_wp2
  all_goals (go_ret; exact bret_wd _ _ _ _)
set_option maxRecDepth 100000 in
set_option maxHeartbeats 1600000 in
theorem light_bat (b : Bat) (a : Option Addr) (cap : Nat) (w : World) (hr : RecsAt w a b.recs) (hm : b.recs.length ≤ maxLen) :
    Calls Tryz.prog 56 #[.agg #[.int .i64 b.base, .int .i64 b.count, .int .i64 b.producer, .int .i64 b.epoch, .int .i64 b.seq, .slice a b.recs.length cap]] w fun x w' => BoolRet w w' x := by
  have HR := Lib.hid hr
  obtain ⟨base, count, producer, epoch, seq, recs⟩ := b
  dsimp only at HR hm ⊢
  unfold maxLen at hm
  clear hr
  by_cases h40 : 40 < recs.length
  · refine calls_wd ?_
    go_enter Tryz.func56, Tryz.ntmps56
    go_wp2
    go_ret
    exact bret_wd _ _ _ _
  · have h41 : (recs.length : Int) ≤ 40 := by omega
    refine calls_wd ?_
    go_enter Tryz.func56, Tryz.ntmps56
    go_wp2
    go_loopw [3] (fun i wr => ∃ (k : Nat) (m : Ext), k ≤ recs.length ∧ i = .int .i64 k ∧ wr = wd w [m.e, bbox base count producer epoch seq a recs.length cap] m.n) (fun i _ => recs.length - (intOf i).toNat)
    case atStart => exact ⟨0, ⟨#[], _⟩, Nat.zero_le _, rfl, by rw [wd_empty]⟩
    case round =>
      obtain ⟨k, m, hk, rfl, rfl⟩ := hrel
      by_cases hlt : k < recs.length
      · obtain ⟨x, hx⟩ : ∃ x, recs[k]? = some x := ⟨_, List.getElem?_eq_getElem hlt⟩
        obtain ⟨bb, off, rfl, hb, c0, c1, c2, c3, c4, c5⟩ := recs_at HR.out k x hx
        obtain ⟨d, t, ky, key, dd, val⟩ := x
        dsimp only at c0 c1 c2 c3 c4 c5
        clear hx
        go_wp2_with (first | (go_at_call 80; ((with_reducible refine (light_rec d t ky dd key val _).mono ?_); rintro e w2 hbr; obtain ⟨bl, rfl, x9, n9, rfl⟩ := hbr.out; cases bl)))
        · go_ret
          exact bret_wd _ _ _ _
        · go_roundw
          case rel => exact ⟨k + 1, ⟨_, _⟩, by omega, by go_num, wd_merge _ _ _ _ _⟩
          case measure => simp [intOf]; omega
      · go_wp2
        go_ret
        exact bret_wd _ _ _ _
structure Btm where
  b : Bat
  a : Option Addr
  cap : Nat
instance : Inhabited Btm := ⟨⟨Bat.zero, none, 0⟩⟩
def btmCells (x : Btm) : List Value := [.int .i64 x.b.base, .int .i64 x.b.count, .int .i64 x.b.producer, .int .i64 x.b.epoch, .int .i64 x.b.seq, .slice x.a x.b.recs.length x.cap]
theorem btmCells_len (x : Btm) : (btmCells x).length = 6 := rfl
structure BatsAt (w : World) (ad : Option Addr) (l : List Btm) : Prop where
  row : RowAt btmCells 6 w ad l
  each : ∀ x ∈ l, RecsAt w x.a x.b.recs
theorem BatsAt.more {w w' : World} {ad : Option Addr} {l : List Btm} (h : BatsAt w ad l) (hm : More w w') : BatsAt w' ad l := ⟨h.row.more hm, fun x hx => (h.each x hx).more hm⟩
theorem BatsAt.nil (w : World) (ad : Option Addr) : BatsAt w ad [] := ⟨RowAt.nil _, fun x hx => by simp at hx⟩
theorem bats_at {w : World} {ad : Option Addr} {l : List Btm} (h : BatsAt w ad l) (k : Nat) (x : Btm) (hx : l[k]? = some x) : ∃ b off, ad = some ⟨b, off, none⟩ ∧ b < w.heap.size ∧
    w.cell? ⟨b, off + k * 6, none⟩ = some (.int .i64 x.b.base) ∧ w.cell? ⟨b, off + k * 6 + 1, none⟩ = some (.int .i64 x.b.count) ∧ w.cell? ⟨b, off + k * 6 + 2, none⟩ = some (.int .i64 x.b.producer) ∧ w.cell? ⟨b, off + k * 6 + 3, none⟩ = some (.int .i64 x.b.epoch) ∧ w.cell? ⟨b, off + k * 6 + 4, none⟩ = some (.int .i64 x.b.seq) ∧
    w.cell? ⟨b, off + k * 6 + 5, none⟩ = some (.slice x.a x.b.recs.length x.cap) := by
  obtain ⟨b, off, ha, hb, hc⟩ := h.row.at btmCells_len k x hx
  refine ⟨b, off, ha, hb, ?_, ?_, ?_, ?_, ?_, ?_⟩
  · exact hc 0 (by decide)
  · rw [Nat.add_assoc]; exact hc 1 (by decide)
  · rw [Nat.add_assoc]; exact hc 2 (by decide)
  · rw [Nat.add_assoc]; exact hc 3 (by decide)
  · rw [Nat.add_assoc]; exact hc 4 (by decide)
  · rw [Nat.add_assoc]; exact hc 5 (by decide)
structure LightRet (w w' : World) (x : Ending) (p : Prop) : Prop where
  out : ∃ b, x = .returned (.bool b) ∧ More w w' ∧ (b = true → p)
end Go.Proofs.YtifoekadjnlhcaaGreatDoor
