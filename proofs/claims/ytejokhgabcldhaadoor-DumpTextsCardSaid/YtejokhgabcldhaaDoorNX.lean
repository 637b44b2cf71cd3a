/- dump: a line taken off. -/
import Derived.Test.YtejokhgabcldhaaDoorNV
import Derived.Test.YtejokhgabcldhaaDoorNW
namespace Go.Proofs.YtejokhgabcldhaaDoor
open Go.ChangeShapes Go.WideShapes Go.ChangeAt Go.RowKit
set_option linter.unusedVariables false
set_option linter.unusedSimpArgs false

set_option maxRecDepth 100000 in
set_option maxHeartbeats 1600000 in
theorem next_yes (p : Nat) (a : Option Addr) (cap : Nat) (ls : List (List UInt8)) (k : Nat) (x : List UInt8) (w : World) (h : LRd w p a cap ls k) (hx : ls[k]? = some x) (hl : ls.length ≤ 1000000) :
    Calls Tryd.prog 53 #[.pointer (some ⟨p, 0, none⟩)] w fun e w' => e = .returned (.tuple #[.string (str x), .bool true]) ∧ ∃ m : Ext, w' = plus (lset w p ((k + 1 : Nat) : Int)) m.e m.n := by
  have h1 := h.c0
  have h2 := h.c1
  have h4 := h.f 1
  have h5 := h.lt
  have hk : k < ls.length := (List.getElem?_eq_some_iff.1 hx).1
  have e : w.setCell ⟨p, 1, none⟩ (.int .i64 ((k : Int) + 1)) = lset w p ((k + 1 : Nat) : Int) := rfl
  have H := h.lset (k + 1)
  have g1 := H.c0
  have g2 := H.c1
  have g5 := H.lt
  obtain ⟨bb, off, rfl, hb, hc⟩ := strs_at (H.row.at strCell_len) k x hx
  obtain ⟨W2, hW2⟩ : ∃ W2, lset w p ((k + 1 : Nat) : Int) = W2 := ⟨_, rfl⟩
  rw [hW2] at e g1 g2 g5 hb hc ⊢
  have E := Lib.hid e
  clear H h hW2 e hx
  refine calls_wd ?_
  go_enter Tryd.func53, Tryd.ntmps53
  go_wp2
  refine wp_region_wd (by kernel_rfl) (by kernel_rfl) ?_
  repeat (go_big_quiet_step ((fail)))
  refine wpQuiet_nil ?_
  rintro _ ⟨mx, rfl⟩
  go_wp2
  rw [E.out]
  rw [show (((k + 1 : Nat)) : Int) = (k : Int) + 1 from rfl] at g2
  refine wp_region_wd (by kernel_rfl) (by kernel_rfl) ?_
  repeat (go_big_quiet_step ((fail)))
  refine wpQuiet_nil ?_
  rintro _ ⟨mx, rfl⟩
  go_wp2
  go_ret2
  exact ⟨rfl, (more_wd W2 _ _).ext⟩
set_option maxRecDepth 100000 in
set_option maxHeartbeats 1600000 in
theorem next_no (p : Nat) (a : Option Addr) (cap : Nat) (ls : List (List UInt8)) (k : Nat) (w : World) (h : LRd w p a cap ls k) (hk : ls.length ≤ k) (hl : ls.length ≤ 1000000) :
    Calls Tryd.prog 53 #[.pointer (some ⟨p, 0, none⟩)] w fun e w' => e = .returned (.tuple #[.string { data := #[] }, .bool false]) ∧ ∃ m : Ext, w' = plus w m.e m.n := by
  have h1 := h.c0
  have h2 := h.c1
  have h5 := h.lt
  clear h
  refine calls_wd ?_
  go_enter Tryd.func53, Tryd.ntmps53
  go_wp2
  refine wp_region_wd (by kernel_rfl) (by kernel_rfl) ?_
  repeat (go_big_quiet_step ((fail)))
  refine wpQuiet_nil ?_
  rintro _ ⟨mx, rfl⟩
  go_wp2
  go_ret2
  exact ⟨rfl, (more_wd w _ _).ext⟩
/-! ### over pieces, the reader's place written -/
section
variable {p : Nat} {a : Option Addr} {cap : Nat} {ls : List (List UInt8)} {k0 : Nat} {w : World}
theorem lrd_at (h : LRd w p a cap ls k0) (k : Nat) (L : List (Array Obj)) (n : Nat) : LRd (wd (lset w p k) L n) p a cap ls k := (h.lset k).more (more_wd _ _ _)
theorem next_yes_at (h : LRd w p a cap ls k0) (hl : ls.length ≤ 1000000) (k : Nat) (x : List UInt8) (hx : ls[k]? = some x) (L : List (Array Obj)) (n : Nat) :
    Calls Tryd.prog 53 #[.pointer (some ⟨p, 0, none⟩)] (wd (lset w p k) L n) fun e w' => e = .returned (.tuple #[.string (str x), .bool true]) ∧ ∃ m : Ext, w' = wd (lset w p ((k + 1 : Nat) : Int)) (m.e :: L) m.n := by
  refine (next_yes p a cap ls k x _ (lrd_at h k L n) hx hl).mono ?_
  rintro e w' ⟨rfl, m, rfl⟩
  refine ⟨rfl, m, ?_⟩
  rw [lset_wd_old _ _ _ _ _ (by rw [lset_size]; exact h.lt), lset_lset, wd_plus]
theorem next_no_at (h : LRd w p a cap ls k0) (hl : ls.length ≤ 1000000) (k : Nat) (hk : ls.length ≤ k) (L : List (Array Obj)) (n : Nat) :
    Calls Tryd.prog 53 #[.pointer (some ⟨p, 0, none⟩)] (wd (lset w p k) L n) fun e w' => e = .returned (.tuple #[.string { data := #[] }, .bool false]) ∧ ∃ m : Ext, w' = wd (lset w p k) (m.e :: L) m.n := by
  refine (next_no p a cap ls k _ (lrd_at h k L n) hk hl).mono ?_
  rintro e w' ⟨rfl, m, rfl⟩
  exact ⟨rfl, m, by rw [wd_plus]⟩
end
end Go.Proofs.YtejokhgabcldhaaDoor
