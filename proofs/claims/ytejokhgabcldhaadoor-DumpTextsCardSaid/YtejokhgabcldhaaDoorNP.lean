/- Rows of batches that can be read; LightAll and SameAll. -/
import Derived.Test.YtejokhgabcldhaaDoorME
namespace Go.Proofs.YtejokhgabcldhaaDoor
open Go.ChangeShapes Go.WideShapes Go.ChangeAt Go.RowKit
set_option linter.unusedVariables false
set_option linter.unusedSimpArgs false

/-- A batch with what it points to. -/
structure Btm where
  b : Bat
  a : Option Addr
  cap : Nat
instance : Inhabited Btm := ⟨⟨Bat.zero, none, 0⟩⟩
def btmCells (x : Btm) : List Value := [.int .i64 x.b.base, .int .i64 x.b.count, .int .i64 x.b.producer, .int .i64 x.b.epoch, .int .i64 x.b.seq, .slice x.a x.b.recs.length x.cap]
theorem btmCells_len (x : Btm) : (btmCells x).length = 6 := rfl
structure BatsAt (w : World) (ad : Option Addr) (l : List Btm) : Prop where
  row : RowAt btmCells 6 w ad l
  each : ∀ x ∈ l, RecsAt w x.a x.b.recs
theorem BatsAt.more {w w' : World} {ad : Option Addr} {l : List Btm} (h : BatsAt w ad l) (hm : More w w') : BatsAt w' ad l := ⟨h.row.more hm, fun x hx => (h.each x hx).more hm⟩
theorem BatsAt.nil (w : World) (ad : Option Addr) : BatsAt w ad [] := ⟨RowAt.nil _, fun x hx => by simp at hx⟩
theorem bats_at {w : World} {ad : Option Addr} {l : List Btm} (h : BatsAt w ad l) (k : Nat) (x : Btm) (hx : l[k]? = some x) : ∃ b off, ad = some ⟨b, off, none⟩ ∧ b < w.heap.size ∧
    w.cell? ⟨b, off + k * 6, none⟩ = some (.int .i64 x.b.base) ∧ w.cell? ⟨b, off + k * 6 + 1, none⟩ = some (.int .i64 x.b.count) ∧ w.cell? ⟨b, off + k * 6 + 2, none⟩ = some (.int .i64 x.b.producer) ∧ w.cell? ⟨b, off + k * 6 + 3, none⟩ = some (.int .i64 x.b.epoch) ∧ w.cell? ⟨b, off + k * 6 + 4, none⟩ = some (.int .i64 x.b.seq) ∧
    w.cell? ⟨b, off + k * 6 + 5, none⟩ = some (.slice x.a x.b.recs.length x.cap) := by
  obtain ⟨b, off, ha, hb, hc⟩ := h.row.at btmCells_len k x hx
  refine ⟨b, off, ha, hb, ?_, ?_, ?_, ?_, ?_, ?_⟩
  · exact hc 0 (by decide)
  · rw [Nat.add_assoc]; exact hc 1 (by decide)
  · rw [Nat.add_assoc]; exact hc 2 (by decide)
  · rw [Nat.add_assoc]; exact hc 3 (by decide)
  · rw [Nat.add_assoc]; exact hc 4 (by decide)
  · rw [Nat.add_assoc]; exact hc 5 (by decide)
/-- Yes, and then p, or no. -/
structure LightRet (w w' : World) (x : Ending) (p : Prop) : Prop where
  out : ∃ b, x = .returned (.bool b) ∧ More w w' ∧ (b = true → p)
set_option maxRecDepth 100000 in
set_option maxHeartbeats 1600000 in
theorem light_bats (ad : Option Addr) (cap : Nat) (l : List Btm) (most : Int) (w : World) (h : BatsAt w ad l) (hf : ∀ x ∈ l, x.b.recs.length ≤ maxLen) (hm : l.length ≤ maxLen) (hmost : most ≤ 1000000) :
    Calls Tryd.prog 12 #[.slice ad l.length cap, .int .i64 most] w fun x w' => LightRet w w' x ((l.length : Int) ≤ most) := by
  have HA := Lib.hid h
  have HF := Lib.hid hf
  unfold maxLen at hm
  clear h hf
  by_cases hl : most < l.length
  · refine calls_wd ?_
    go_enter Tryd.func12, Tryd.ntmps12
    go_wp2
    go_ret
    exact ⟨false, rfl, more_wd _ _ _, fun h => by cases h⟩
  · have hl2 : (l.length : Int) ≤ most := by omega
    refine calls_wd ?_
    go_enter Tryd.func12, Tryd.ntmps12
    go_wp2
    go_loopw [5] (fun i wr => ∃ (k : Nat) (m : Ext), k ≤ l.length ∧ i = .int .i64 k ∧ wr = wd w [m.e] m.n) (fun i _ => l.length - (intOf i).toNat)
    case atStart => exact ⟨0, ⟨#[], _⟩, Nat.zero_le _, rfl, by rw [wd_empty]⟩
    case round =>
      obtain ⟨k, m, hk, rfl, rfl⟩ := hrel
      by_cases hlt : k < l.length
      · obtain ⟨x, hx⟩ : ∃ x, l[k]? = some x := ⟨_, List.getElem?_eq_getElem hlt⟩
        obtain ⟨bb, off, rfl, hb, c0, c1, c2, c3, c4, c5⟩ := bats_at HA.out k x hx
        have hmem := List.mem_of_getElem? hx
        have HAT := Lib.hid (HA.out.each x hmem)
        have HLQ := Lib.hid (fun W h => light_bat x.b x.a x.cap W h (HF.out x hmem))
        clear hx hmem
        obtain ⟨⟨b0, b1, b2, b3, b4, rs⟩, a, c⟩ := x
        dsimp only at HAT HLQ c0 c1 c2 c3 c4 c5
        go_wp2_with (first | (go_at_call 28; ((with_reducible refine (HLQ.out _ (HAT.out.more (more_wd _ _ _))).mono ?_); rintro e w2 hbr; obtain ⟨bl, rfl, x9, n9, rfl⟩ := hbr.out; cases bl)))
        · go_ret
          exact ⟨_, rfl, more_wd _ _ _, fun _ => hl2⟩
        · go_roundw
          case rel => exact ⟨k + 1, ⟨_, _⟩, by omega, by go_num, wd_merge _ _ _ _ _⟩
          case measure => simp [intOf]; omega
      · go_wp2
        go_ret
        exact ⟨_, rfl, more_wd _ _ _, fun _ => hl2⟩
set_option maxRecDepth 100000 in
set_option maxHeartbeats 1600000 in
theorem sameall_bats (ad1 ad2 : Option Addr) (cap1 cap2 : Nat) (l1 l2 : List Btm) (w : World) (h1 : BatsAt w ad1 l1) (h2 : BatsAt w ad2 l2) (hf1 : ∀ x ∈ l1, x.b.recs.length ≤ maxLen) (hf2 : ∀ x ∈ l2, x.b.recs.length ≤ maxLen) (hm : l1.length ≤ maxLen)
    (he : l1.map Btm.b = l2.map Btm.b) :
    Calls Tryd.prog 20 #[.slice ad1 l1.length cap1, .slice ad2 l2.length cap2] w fun x w' => x = .returned (.bool true) ∧ More w w' := by
  have HA := Lib.hid h1
  have HB := Lib.hid h2
  have HF := Lib.hid hf1
  have HG := Lib.hid hf2
  have HE := Lib.hid he
  have hlen : l2.length = l1.length := by have := congrArg List.length he; simpa using this.symm
  unfold maxLen at hm
  clear h1 h2 hf1 hf2 he
  rw [hlen]
  refine calls_wd ?_
  go_enter Tryd.func20, Tryd.ntmps20
  go_wp2
  go_loopw [5] (fun i wr => ∃ (k : Nat) (m : Ext), k ≤ l1.length ∧ i = .int .i64 k ∧ wr = wd w [m.e] m.n) (fun i _ => l1.length - (intOf i).toNat)
  case atStart => exact ⟨0, ⟨#[], _⟩, Nat.zero_le _, rfl, by rw [wd_empty]⟩
  case round =>
    obtain ⟨k, m, hk, rfl, rfl⟩ := hrel
    by_cases hlt : k < l1.length
    · obtain ⟨x, hx⟩ : ∃ x, l1[k]? = some x := ⟨_, List.getElem?_eq_getElem hlt⟩
      obtain ⟨y, hy⟩ : ∃ y, l2[k]? = some y := ⟨_, List.getElem?_eq_getElem (by omega)⟩
      have hxy : x.b = y.b := by
        have e := congrArg (fun z => z[k]?) HE.out
        simp only [List.getElem?_map, hx, hy, Option.map_some, Option.some.injEq] at e
        exact e
      obtain ⟨bb, off, rfl, hb, c0, c1, c2, c3, c4, c5⟩ := bats_at HA.out k x hx
      obtain ⟨bb2, off2, rfl, hb2, d0, d1, d2, d3, d4, d5⟩ := bats_at HB.out k y hy
      have HX := Lib.hid (HA.out.each x (List.mem_of_getElem? hx))
      have HY := Lib.hid (HB.out.each y (List.mem_of_getElem? hy))
      have HS := Lib.hid (fun W g1 g2 => (show decide (x.b = y.b) = true from decide_eq_true hxy) ▸ rsame_bat x.b y.b x.a y.a x.cap y.cap W g1 g2 (HF.out x (List.mem_of_getElem? hx)) (HG.out y (List.mem_of_getElem? hy)))
      clear hx hy hxy
      obtain ⟨⟨b0, b1, b2, b3, b4, rs⟩, a, c⟩ := x
      obtain ⟨⟨e0, e1, e2, e3, e4, es⟩, a', c'⟩ := y
      dsimp only at HX HY HS c0 c1 c2 c3 c4 c5 d0 d1 d2 d3 d4 d5
      go_wp2
      refine wp_region_wd (by kernel_rfl) (by kernel_rfl) ?_
      repeat (go_big_quiet_step ((first | (go_at_call 40; with_reducible exact Calls.wd_of (HS.out _ (HX.out.more (more_wd _ _ _)) (HY.out.more (more_wd _ _ _)))))))
      refine wpQuiet_nil ?_
      rintro _ ⟨mx, rfl⟩
      go_wp2
      go_roundw
      case rel => exact ⟨k + 1, ⟨_, mx.n⟩, by omega, by go_num, by rw [wd_merge]⟩
      case measure => simp [intOf]; omega
    · go_wp2
      go_ret
      exact ⟨rfl, more_wd _ _ _⟩
end Go.Proofs.YtejokhgabcldhaaDoor
