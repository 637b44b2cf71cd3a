/- law 36, ViewLooks: the program's Since. -/
import Derived.Test.YtlanghikmccmbaaLB
import Derived.Test.YtlanghikmccmbaaVT
import Derived.Test.YtlanghikmccmbaaVN
namespace Go.Proofs.Ytlanghikmccmbaa
open Go.ChangeShapes Go.WideShapes Go.ChangeAt Go.RowKit
set_option linter.unusedVariables false
set_option linter.unusedSimpArgs false
set_option maxRecDepth 100000 in
theorem since1_any (c : Nat) (off : Int) (x : VRow) (w : World) (hc : w.cell? ⟨c, 0, none⟩ = some (.int .i64 off)) (hcs : c < w.heap.size) :
    Calls Try.prog 38 #[rowV x, .pointer (some ⟨c, 0, none⟩)] w fun e w' => e = .returned (.bool (decide (x.offset < off))) ∧ More w w' := by
  obtain ⟨xk, xv, xo, xt⟩ := x
  dsimp only
  refine calls_wd ?_
  go_enter Try.func38, Try.ntmps38
  go_wp2
  go_ret
  exact ⟨rfl, more_wd _ _ _⟩
set_option maxRecDepth 100000 in
theorem since1_enter : ∀ args w, (callFunc 38 args).run Try.prog w = .ok (.enter 38 args) w := enters_of Try.func38 (by kernel_rfl) rfl
theorem since1_ok {B c : Nat} {off : Int} {l : List VRow} (w : World) (hc : w.cell? ⟨c, 0, none⟩ = some (.int .i64 off)) (hcs : c < B) (hcw : c < w.heap.size) (row : Nat) (hrow : B ≤ row) :
    PredOk 38 #[.pointer (some ⟨c, 0, none⟩)] (fun x => decide (x.offset < off)) row l w := by
  refine ⟨since1_enter, fun W x hx hW => ?_⟩
  refine since1_any c off x W ?_ (Nat.lt_of_lt_of_le hcw hW.size)
  rw [← hc]
  have := hW.block c hcw (fun e => by have := Option.some.inj e; omega)
  simp only [World.cell?, this]
theorem delf_since {w : World} (L0 : List (Array Obj)) (top : Array Obj) (off : Int) {n : Nat} (v : Value) (l : List VRow)
    (hrow : rowIn w.heap.size (shape (#[.cells #[.int .i64 off] 3] :: L0)) top 34 4 v l.length (l.flatMap vrCells)) (hl : l.length ≤ 1000000) :
    Calls Try.prog 36 #[v, .func (.func 38) #[] #[.pointer (some ⟨sz w.heap.size (shape L0), 0, none⟩)]] (wd w (top :: #[.cells #[.int .i64 off] 3] :: L0) n)
      fun e w' => DelW w w' e (#[.cells #[.int .i64 off] 3] :: L0) (keepR (fun x => decide (x.offset < off)) l) := by
  have h1 := mid_at w (.cells #[.int .i64 off] 3) L0 n [top]
  rw [List.cons_append, List.nil_append] at h1
  have hc : (wd w (top :: #[.cells #[.int .i64 off] 3] :: L0) n).cell? ⟨sz w.heap.size (shape L0), 0, none⟩ = some (.int .i64 off) := by
    simp only [World.cell?, h1]; rfl
  have hlt : sz w.heap.size (shape L0) < sz w.heap.size (shape (#[.cells #[.int .i64 off] 3] :: L0)) := Nat.lt_succ_self _
  refine (delf2 38 _ (fun x => decide (x.offset < off)) _ v l _ (owns_of_row hrow) hl (fun row hrw => since1_ok _ hc hlt (Array.getElem?_eq_some_iff.1 h1).1 row hrw) since1_enter).mono ?_
  rintro e w' hs
  obtain ⟨a, c, row, h3, h4, h5, h6⟩ := hs.out
  obtain ⟨m, rfl⟩ := grown_piece (m := 0) h5 h6
  exact ⟨a, c, m, h3, rfl, row_of_owns h4⟩
structure SsfW (w w' : World) (e : Ending) (L : List (Array Obj)) (v : Value) (l : List VRow) : Prop where
  out : ∃ (s : List VRow) (m : Ext), e = .returned (.tuple #[]) ∧ w' = wd w (m.e :: L) m.n ∧ s.length = l.length ∧ SortedF VRow.offset s ∧ SameF VRow.offset s l ∧ rowIn w.heap.size (shape L) m.e 34 4 v l.length (s.flatMap vrCells)
theorem ssf_wd {w : World} (L : List (Array Obj)) (top : Array Obj) {n : Nat} (v : Value) (l : List VRow) (hrow : rowIn w.heap.size (shape L) top 34 4 v l.length (l.flatMap vrCells)) (hl : l.length ≤ 1000000) :
    Calls Try.prog 39 #[v, .func (.func 40) #[] #[]] (wd w (top :: L) n) fun e w' => SsfW w w' e L v l := by
  have h := owns_of_row (k := n) hrow
  rcases owns_cases (n := 0) h with ⟨rfl, rfl⟩ | ⟨g, cap, rfl, hg⟩
  · refine (ssf_none none 0 _).mono ?_
    rintro e w' ⟨rfl, rfl⟩
    exact ⟨[], ⟨top, n⟩, rfl, rfl, rfl, List.Pairwise.nil, SameF.refl _, hrow⟩
  · refine (ssf_some _ g cap l _ h hl).mono ?_
    rintro e w' hs
    obtain ⟨he, s, h1, h2, h3, h4, h5⟩ := hs.out
    obtain ⟨m, rfl⟩ := grown_piece (m := 0) h5 (fun k hk => by cases hk; exact hg)
    exact ⟨s, m, he, rfl, h1, h2, h3, row_of_owns h4⟩
/-- Rows from an offset on, in the order of their offsets. -/
structure SncRet (w w' : World) (e : Ending) (l : List VRow) : Prop where
  out : ∃ s, VRowsRet w w' e s ∧ SortedF VRow.offset s ∧ SameF VRow.offset s l
set_option maxRecDepth 100000 in
set_option maxHeartbeats 1600000 in
theorem psince_any (v : Vw) (off : Int) (a : Option Addr) (cap : Nat) (w : World) (hr : VRowsAt w a v.rows) (hl : v.rows.length ≤ 1000000) :
    Calls Try.prog 17 #[.agg #[.int .i64 v.next, .slice a v.rows.length cap], .int .i64 off] w fun x w' => SncRet w w' x (keepR (fun x => decide (x.offset < off)) v.rows) := by
  have HCL := Lib.hid (fun W hm => clone_rows a cap v.rows W (hr.more (w' := W) hm) hl)
  obtain ⟨nx, l⟩ := v
  dsimp only at HCL hl ⊢
  have hkl : (keepR (fun x => decide (x.offset < off)) l).length ≤ 1000000 := Nat.le_trans (keepR_len _ _) hl
  obtain ⟨N, hN⟩ : ∃ N, l.length = N := ⟨_, rfl⟩
  obtain ⟨KR, hKR⟩ : ∃ KR, keepR (fun x => decide (x.offset < off)) l = KR := ⟨_, rfl⟩
  have HDL := Lib.hid (fun (L0 : List (Array Obj)) (top : Array Obj) (n : Nat) (v : Value) hrow => delf_since (w := w) L0 top off (n := n) v l hrow hl)
  have HSS := Lib.hid (fun (L : List (Array Obj)) (top : Array Obj) (n : Nat) (v : Value) hrow => ssf_wd (w := w) L top (n := n) v KR hrow (by rw [← hKR]; exact hkl))
  rw [hKR] at HDL ⊢
  rw [hN] at HCL HDL ⊢
  obtain ⟨K, hK⟩ : ∃ K, KR.length = K := ⟨_, rfl⟩
  have HK := Lib.hid hK
  rw [hK] at HSS
  clear hr hN hKR hkl hl hK
  refine calls_wd ?_
  go_enter Try.func17, Try.ntmps17
  go_wp2_with (first
    | ((go_at_call 37; ((with_reducible refine (HCL.out _ (more_wd _ _ _)).mono ?_); rintro e w1 ⟨v9, rfl, x1⟩; obtain ⟨m9, rfl, hr9⟩ := x1.wd; clear x1)); obtain ⟨a9, c9, rfl⟩ := rowIn_slice hr9; have HR9 := Lib.hid hr9; clear hr9)
    | (go_at_call 36; refine (HDL.out [#[.cells #[.int .i64 nx, .slice a N cap] 32]] m9.e m9.n _ HR9.out).mono ?_; rintro e w5 hs; obtain ⟨a5, c5, m5, rfl, rfl, hr5⟩ := hs.out; rw [HK.out] at hr5; rw [HK.out]; have HR5 := Lib.hid hr5; clear hs hr5)
    | (go_at_call 39; refine (HSS.out _ m5.e m5.n _ HR5.out).mono ?_; rintro e w6 hs; obtain ⟨s, m6, rfl, rfl, h1, h2, h3, h4⟩ := hs.out; have HS := Lib.hid (And.intro h1 (And.intro h2 (And.intro h3 h4))); clear hs h1 h2 h3 h4))
  go_ret
  obtain ⟨h1, h2, h3, h4⟩ := HS.out
  rw [HK.out] at h1 h4
  refine ⟨s, ⟨a5, c5, ?_, vrows_of_row (L := [_, _]) h1 h4 m6.n, more_wd _ _ _, from_row h4 h1⟩, h2, h3⟩
  rw [h1]; rfl
end Go.Proofs.Ytlanghikmccmbaa
/- law 36, ViewLooks: own, with its room; the document's Since. -/
namespace Go.Proofs.Ytlanghikmccmbaa
open Go.ChangeShapes Go.WideShapes Go.ChangeAt Go.RowKit
set_option linter.unusedVariables false
set_option linter.unusedSimpArgs false
structure VwOneC (w w' : World) (x : Ending) (v : Vw) : Prop where
  out : ∃ a cap, x = .returned (.agg #[.int .i64 v.next, .slice a v.rows.length cap]) ∧ VRowsAt w' a v.rows ∧ More w w' ∧ v.rows.length ≤ cap ∧ cap ≤ maxLen
end Go.Proofs.Ytlanghikmccmbaa
/- law 36, ViewLooks: the document's Since. -/
namespace Go.Proofs.Ytlanghikmccmbaa
open Go.ChangeShapes Go.WideShapes Go.ChangeAt Go.RowKit
set_option linter.unusedVariables false
set_option linter.unusedSimpArgs false
theorem mid_cell' (w : World) (c : Array Value) (t : TypeId) (L : List (Array Obj)) (n i : Nat) (A : List (Array Obj)) : (wd w (A ++ #[.cells c t] :: L) n).cell? ⟨sz w.heap.size (shape L), i, none⟩ = c[i]? := by
  simp only [World.cell?, mid_at w (.cells c t) L n A]
  simp
theorem cell_lt' {W : World} {b i : Nat} {u : Value} (h : W.cell? ⟨b, i, none⟩ = some u) : b < W.heap.size := by
  rcases Nat.lt_or_ge b W.heap.size with h' | h'
  · exact h'
  · simp [World.cell?, Array.getElem?_eq_none h'] at h
theorem cell_more {w W : World} {b i : Nat} {u : Value} (h : More w W) (hc : w.cell? ⟨b, i, none⟩ = some u) : W.cell? ⟨b, i, none⟩ = some u := by
  rw [← hc]
  have := h.below.block b (cell_lt' hc)
  simp only [World.cell?, this]
/-- What the document's loop keeps. -/
structure SncI (W w : World) (a : Option Addr) (F : List VRow) (N c : Nat) (K : List VRow) : Prop where
  rows : VRowsAt W a F
  len : F.length = N
  from_ : From w.heap.size a F
  sorted : SortedF VRow.offset F
  same : SameF VRow.offset F K
  cap : N ≤ c ∧ c ≤ maxLen
end Go.Proofs.Ytlanghikmccmbaa
