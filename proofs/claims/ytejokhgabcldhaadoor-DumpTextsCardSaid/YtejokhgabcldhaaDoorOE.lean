/- Small batches, told with what it says of them. -/
import Derived.Test.YtejokhgabcldhaaDoorNP
import Derived.Test.YtejokhgabcldhaaDoorNJ
namespace Go.Proofs.YtejokhgabcldhaaDoor
open Go.ChangeShapes Go.WideShapes Go.ChangeAt Go.RowKit
set_option linter.unusedVariables false
set_option linter.unusedSimpArgs false

set_option maxRecDepth 100000 in
set_option maxHeartbeats 1600000 in
theorem light_bat40 (b : Bat) (a : Option Addr) (cap : Nat) (w : World) (hr : RecsAt w a b.recs) (hm : b.recs.length ≤ maxLen) :
    Calls Tryd.prog 28 #[.agg #[.int .i64 b.base, .int .i64 b.count, .int .i64 b.producer, .int .i64 b.epoch, .int .i64 b.seq, .slice a b.recs.length cap]] w fun x w' => LightRet w w' x (b.recs.length ≤ 40) := by
  have HR := Lib.hid hr
  obtain ⟨base, count, producer, epoch, seq, recs⟩ := b
  dsimp only at HR hm ⊢
  unfold maxLen at hm
  clear hr
  by_cases h40 : 40 < recs.length
  · refine calls_wd ?_
    go_enter Tryd.func28, Tryd.ntmps28
    go_wp2
    go_ret
    exact ⟨false, rfl, more_wd _ _ _, fun h => by cases h⟩
  · have h41 : (recs.length : Int) ≤ 40 := by omega
    refine calls_wd ?_
    go_enter Tryd.func28, Tryd.ntmps28
    go_wp2
    go_loopw [3] (fun i wr => ∃ (k : Nat) (m : Ext), k ≤ recs.length ∧ i = .int .i64 k ∧ wr = wd w [m.e, bbox base count producer epoch seq a recs.length cap] m.n) (fun i _ => recs.length - (intOf i).toNat)
    case atStart => exact ⟨0, ⟨#[], _⟩, Nat.zero_le _, rfl, by rw [wd_empty]⟩
    case round =>
      obtain ⟨k, m, hk, rfl, rfl⟩ := hrel
      by_cases hlt : k < recs.length
      · obtain ⟨x, hx⟩ : ∃ x, recs[k]? = some x := ⟨_, List.getElem?_eq_getElem hlt⟩
        obtain ⟨bb, off, rfl, hb, c0, c1, c2, c3, c4, c5⟩ := recs_at HR.out k x hx
        obtain ⟨d, t, ky, key, dd, val⟩ := x
        dsimp only at c0 c1 c2 c3 c4 c5
        clear hx
        go_wp2_with (first | (go_at_call 43; ((with_reducible refine (light_rec d t ky dd key val _).mono ?_); rintro e w2 hbr; obtain ⟨bl, rfl, x9, n9, rfl⟩ := hbr.out; cases bl)))
        · go_ret
          exact ⟨_, rfl, more_wd _ _ _, fun _ => by show recs.length ≤ 40; omega⟩
        · go_roundw
          case rel => exact ⟨k + 1, ⟨_, _⟩, by omega, by go_num, wd_merge _ _ _ _ _⟩
          case measure => simp [intOf]; omega
      · go_wp2
        go_ret
        exact ⟨_, rfl, more_wd _ _ _, fun _ => by show recs.length ≤ 40; omega⟩
set_option maxRecDepth 100000 in
set_option maxHeartbeats 1600000 in
theorem light_bats40 (ad : Option Addr) (cap : Nat) (l : List Btm) (most : Int) (w : World) (h : BatsAt w ad l) (hf : ∀ x ∈ l, x.b.recs.length ≤ maxLen) (hm : l.length ≤ maxLen) (hmost : most ≤ 1000000) :
    Calls Tryd.prog 12 #[.slice ad l.length cap, .int .i64 most] w fun x w' => LightRet w w' x ((l.length : Int) ≤ most ∧ ∀ y ∈ l, y.b.recs.length ≤ 40) := by
  have HA := Lib.hid h
  have HF := Lib.hid hf
  unfold maxLen at hm
  clear h hf
  by_cases hl : most < l.length
  · refine calls_wd ?_
    go_enter Tryd.func12, Tryd.ntmps12
    go_wp2
    go_ret
    exact ⟨false, rfl, more_wd _ _ _, fun h => by cases h⟩
  · have hl2 : (l.length : Int) ≤ most := by omega
    refine calls_wd ?_
    go_enter Tryd.func12, Tryd.ntmps12
    go_wp2
    go_loopw [5] (fun i wr => ∃ (k : Nat) (m : Ext), k ≤ l.length ∧ i = .int .i64 k ∧ wr = wd w [m.e] m.n ∧ Hid (∀ y ∈ l.take k, y.b.recs.length ≤ 40)) (fun i _ => l.length - (intOf i).toNat)
    case atStart => exact ⟨0, ⟨#[], _⟩, Nat.zero_le _, rfl, by rw [wd_empty], Lib.hid (by simp)⟩
    case round =>
      obtain ⟨k, m, hk, rfl, rfl, HTK⟩ := hrel
      by_cases hlt : k < l.length
      · obtain ⟨x, hx⟩ : ∃ x, l[k]? = some x := ⟨_, List.getElem?_eq_getElem hlt⟩
        obtain ⟨bb, off, rfl, hb, c0, c1, c2, c3, c4, c5⟩ := bats_at HA.out k x hx
        have hmem := List.mem_of_getElem? hx
        have HAT := Lib.hid (HA.out.each x hmem)
        have HLQ := Lib.hid (fun W h => light_bat40 x.b x.a x.cap W h (HF.out x hmem))
        have HSTEP := Lib.hid (fun h : x.b.recs.length ≤ 40 => take_ok (p := fun y : Btm => y.b.recs.length ≤ 40) HTK.out hx h)
        clear hx hmem
        obtain ⟨⟨b0, b1, b2, b3, b4, rs⟩, a, c⟩ := x
        dsimp only at HAT HLQ HSTEP c0 c1 c2 c3 c4 c5
        go_wp2_with (first | (go_at_call 28; ((with_reducible refine (HLQ.out _ (HAT.out.more (more_wd _ _ _))).mono ?_); rintro e w2 hbr; obtain ⟨bl, rfl, ⟨x9, n9, rfl⟩, hbl⟩ := hbr.out; clear hbr; have HBL := Lib.hid hbl; clear hbl; cases bl)))
        · go_ret
          exact ⟨_, rfl, more_wd _ _ _, fun h => by cases h⟩
        · go_roundw
          case rel => exact ⟨k + 1, ⟨_, _⟩, by omega, by go_num, wd_merge _ _ _ _ _, Lib.hid (HSTEP.out (HBL.out (by trivial)))⟩
          case measure => simp [intOf]; omega
      · have HALL : Hid (∀ y ∈ l, y.b.recs.length ≤ 40) := Lib.hid (by have h := HTK.out; rw [List.take_of_length_le (by omega)] at h; exact h)
        go_wp2
        go_ret
        exact ⟨_, rfl, more_wd _ _ _, fun _ => ⟨hl2, HALL.out⟩⟩
end Go.Proofs.YtejokhgabcldhaaDoor
