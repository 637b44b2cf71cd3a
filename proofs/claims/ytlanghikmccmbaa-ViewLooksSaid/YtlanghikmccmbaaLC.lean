/- law 36, ViewLooks: the program's Since. -/
import Derived.Test.YtlanghikmccmbaaLB
import Derived.Test.YtlanghikmccmbaaVT
import Derived.Test.YtlanghikmccmbaaVN
namespace Go.Proofs.Ytlanghikmccmbaa
open Go.ChangeShapes Go.WideShapes Go.ChangeAt Go.RowKit
set_option linter.unusedVariables false
set_option linter.unusedSimpArgs false
set_option maxRecDepth 100000 in
theorem since1_any (c : Nat) (off : Int) (x : VRow) (w : World) (hc : w.cell? ⟨c, 0, none⟩ = some (.int .i64 off)) (hcs : c < w.heap.size) :
    Calls Try.prog 38 #[rowV x, .pointer (some ⟨c, 0, none⟩)] w fun e w' => e = .returned (.bool (decide (x.offset < off))) ∧ More w w' := by
  obtain ⟨xk, xv, xo, xt⟩ := x
  dsimp only
  refine calls_wd ?_
  go_enter Try.func38, Try.ntmps38
  go_wp2
  go_ret
  exact ⟨rfl, more_wd _ _ _⟩
set_option maxRecDepth 100000 in
theorem since1_enter : ∀ args w, (callFunc 38 args).run Try.prog w = .ok (.enter 38 args) w := enters_of Try.func38 (by kernel_rfl) rfl
theorem since1_ok {B c : Nat} {off : Int} {l : List VRow} (w : World) (hc : w.cell? ⟨c, 0, none⟩ = some (.int .i64 off)) (hcs : c < B) (hcw : c < w.heap.size) (row : Nat) (hrow : B ≤ row) :
    PredOk 38 #[.pointer (some ⟨c, 0, none⟩)] (fun x => decide (x.offset < off)) row l w := by
  refine ⟨since1_enter, fun W x hx hW => ?_⟩
  refine since1_any c off x W ?_ (Nat.lt_of_lt_of_le hcw hW.size)
  rw [← hc]
  have := hW.block c hcw (fun e => by have := Option.some.inj e; omega)
  simp only [World.cell?, this]
theorem delf_since {w : World} (L0 : List (Array Obj)) (top : Array Obj) (off : Int) {n : Nat} (v : Value) (l : List VRow)
    (hrow : rowIn w.heap.size (shape (#[.cells #[.int .i64 off] 3] :: L0)) top 34 4 v l.length (l.flatMap vrCells)) (hl : l.length ≤ 1000000) :
    Calls Try.prog 36 #[v, .func (.func 38) #[] #[.pointer (some ⟨sz w.heap.size (shape L0), 0, none⟩)]] (wd w (top :: #[.cells #[.int .i64 off] 3] :: L0) n)
      fun e w' => DelW w w' e (#[.cells #[.int .i64 off] 3] :: L0) (keepR (fun x => decide (x.offset < off)) l) := by
  have h1 := mid_at w (.cells #[.int .i64 off] 3) L0 n [top]
  rw [List.cons_append, List.nil_append] at h1
  have hc : (wd w (top :: #[.cells #[.int .i64 off] 3] :: L0) n).cell? ⟨sz w.heap.size (shape L0), 0, none⟩ = some (.int .i64 off) := by
    simp only [World.cell?, h1]; rfl
  have hlt : sz w.heap.size (shape L0) < sz w.heap.size (shape (#[.cells #[.int .i64 off] 3] :: L0)) := Nat.lt_succ_self _
  refine (delf2 38 _ (fun x => decide (x.offset < off)) _ v l _ (owns_of_row hrow) hl (fun row hrw => since1_ok _ hc hlt (Array.getElem?_eq_some_iff.1 h1).1 row hrw) since1_enter).mono ?_
  rintro e w' hs
  obtain ⟨a, c, row, h3, h4, h5, h6⟩ := hs.out
  obtain ⟨m, rfl⟩ := grown_piece (m := 0) h5 h6
  exact ⟨a, c, m, h3, rfl, row_of_owns h4⟩
structure SsfW (w w' : World) (e : Ending) (L : List (Array Obj)) (v : Value) (l : List VRow) : Prop where
  out : ∃ (s : List VRow) (m : Ext), e = .returned (.tuple #[]) ∧ w' = wd w (m.e :: L) m.n ∧ s.length = l.length ∧ SortedF VRow.offset s ∧ SameF VRow.offset s l ∧ rowIn w.heap.size (shape L) m.e 34 4 v l.length (s.flatMap vrCells)
theorem ssf_wd {w : World} (L : List (Array Obj)) (top : Array Obj) {n : Nat} (v : Value) (l : List VRow) (hrow : rowIn w.heap.size (shape L) top 34 4 v l.length (l.flatMap vrCells)) (hl : l.length ≤ 1000000) :
    Calls Try.prog 39 #[v, .func (.func 40) #[] #[]] (wd w (top :: L) n) fun e w' => SsfW w w' e L v l := by
  have h := owns_of_row (k := n) hrow
  rcases owns_cases (n := 0) h with ⟨rfl, rfl⟩ | ⟨g, cap, rfl, hg⟩
  · refine (ssf_none none 0 _).mono ?_
    rintro e w' ⟨rfl, rfl⟩
    exact ⟨[], ⟨top, n⟩, rfl, rfl, rfl, List.Pairwise.nil, SameF.refl _, hrow⟩
  · refine (ssf_some _ g cap l _ h hl).mono ?_
    rintro e w' hs
    obtain ⟨he, s, h1, h2, h3, h4, h5⟩ := hs.out
    obtain ⟨m, rfl⟩ := grown_piece (m := 0) h5 (fun k hk => by cases hk; exact hg)
    exact ⟨s, m, he, rfl, h1, h2, h3, row_of_owns h4⟩
/-- Rows from an offset on, in the order of their offsets. -/
structure SncRet (w w' : World) (e : Ending) (l : List VRow) : Prop where
  out : ∃ s, VRowsRet w w' e s ∧ SortedF VRow.offset s ∧ SameF VRow.offset s l
set_option maxRecDepth 100000 in
set_option maxHeartbeats 1600000 in
theorem psince_any (v : Vw) (off : Int) (a : Option Addr) (cap : Nat) (w : World) (hr : VRowsAt w a v.rows) (hl : v.rows.length ≤ 1000000) :
    Calls Try.prog 17 #[.agg #[.int .i64 v.next, .slice a v.rows.length cap], .int .i64 off] w fun x w' => SncRet w w' x (keepR (fun x => decide (x.offset < off)) v.rows) := by
  have HCL := Lib.hid (fun W hm => clone_rows a cap v.rows W (hr.more (w' := W) hm) hl)
  obtain ⟨nx, l⟩ := v
  dsimp only at HCL hl ⊢
  have hkl : (keepR (fun x => decide (x.offset < off)) l).length ≤ 1000000 := Nat.le_trans (keepR_len _ _) hl
  obtain ⟨N, hN⟩ : ∃ N, l.length = N := ⟨_, rfl⟩
  obtain ⟨KR, hKR⟩ : ∃ KR, keepR (fun x => decide (x.offset < off)) l = KR := ⟨_, rfl⟩
  have HDL := Lib.hid (fun (L0 : List (Array Obj)) (top : Array Obj) (n : Nat) (v : Value) hrow => delf_since (w := w) L0 top off (n := n) v l hrow hl)
  have HSS := Lib.hid (fun (L : List (Array Obj)) (top : Array Obj) (n : Nat) (v : Value) hrow => ssf_wd (w := w) L top (n := n) v KR hrow (by rw [← hKR]; exact hkl))
  rw [hKR] at HDL ⊢
  rw [hN] at HCL HDL ⊢
  obtain ⟨K, hK⟩ : ∃ K, KR.length = K := ⟨_, rfl⟩
  have HK := Lib.hid hK
  rw [hK] at HSS
  clear hr hN hKR hkl hl hK
  refine calls_wd ?_
  go_enter Try.func17, Try.ntmps17
  go_wp2_with (first
    | ((go_at_call 37; ((with_reducible refine (HCL.out _ (more_wd _ _ _)).mono ?_); rintro e w1 ⟨v9, rfl, x1⟩; obtain ⟨m9, rfl, hr9⟩ := x1.wd; clear x1)); obtain ⟨a9, c9, rfl⟩ := rowIn_slice hr9; have HR9 := Lib.hid hr9; clear hr9)
    | (go_at_call 36; refine (HDL.out [#[.cells #[.int .i64 nx, .slice a N cap] 32]] m9.e m9.n _ HR9.out).mono ?_; rintro e w5 hs; obtain ⟨a5, c5, m5, rfl, rfl, hr5⟩ := hs.out; rw [HK.out] at hr5; rw [HK.out]; have HR5 := Lib.hid hr5; clear hs hr5)
    | (go_at_call 39; refine (HSS.out _ m5.e m5.n _ HR5.out).mono ?_; rintro e w6 hs; obtain ⟨s, m6, rfl, rfl, h1, h2, h3, h4⟩ := hs.out; have HS := Lib.hid (And.intro h1 (And.intro h2 (And.intro h3 h4))); clear hs h1 h2 h3 h4))
  go_ret
  obtain ⟨h1, h2, h3, h4⟩ := HS.out
  rw [HK.out] at h1 h4
  refine ⟨s, ⟨a5, c5, ?_, vrows_of_row (L := [_, _]) h1 h4 m6.n, more_wd _ _ _, from_row h4 h1⟩, h2, h3⟩
  rw [h1]; rfl
end Go.Proofs.Ytlanghikmccmbaa
/- law 36, ViewLooks: own, with its room; the document's Since. -/
namespace Go.Proofs.Ytlanghikmccmbaa
open Go.ChangeShapes Go.WideShapes Go.ChangeAt Go.RowKit
set_option linter.unusedVariables false
set_option linter.unusedSimpArgs false
structure VwOneC (w w' : World) (x : Ending) (v : Vw) : Prop where
  out : ∃ a cap, x = .returned (.agg #[.int .i64 v.next, .slice a v.rows.length cap]) ∧ VRowsAt w' a v.rows ∧ More w w' ∧ v.rows.length ≤ cap ∧ cap ≤ maxLen
set_option maxRecDepth 100000 in
set_option maxHeartbeats 1600000 in
theorem ownc_any (v : Vw) (a : Option Addr) (cap : Nat) (w : World) (hr : VRowsAt w a v.rows) (hl : v.rows.length ≤ 1000000) :
    Calls Try.prog 10 #[.agg #[.int .i64 v.next, .slice a v.rows.length cap]] w fun x w' => VwOneC w w' x v := by
  obtain ⟨i0, hi, hz0, hz1, hz2⟩ := info_parts info_vrow
  have HA := Lib.hid hr
  obtain ⟨nx, l⟩ := v
  dsimp only at HA hl ⊢
  obtain ⟨N, hN⟩ : ∃ N, l.length = N := ⟨_, rfl⟩
  have HN := Lib.hid hN
  rw [hN] at hl ⊢
  clear hr hN
  refine calls_wd ?_
  go_enter Try.func10, Try.ntmps10
  go_wp2
  go_loopw [4] (fun i wr => ∃ (k : Nat) (m : Ext) (a' : Option Addr) (c' : Nat), k ≤ N ∧ i = .int .i64 k ∧ rowIn w.heap.size [1, 1, 1] m.e 34 4 (.slice a' k c') k ((l.take k).flatMap vrCells) ∧
    wr = wd w [m.e, #[.cells #[.int .i64 nx, .slice a' k c'] 32], #[.cells #[.int .i64 0, .slice none 0 0] 32], #[.cells #[.int .i64 nx, .slice a N cap] 24]] m.n) (fun i _ => N - (intOf i).toNat)
  case atStart => exact ⟨0, ⟨#[], _⟩, none, 0, Nat.zero_le _, rfl, rowIn_nil _ _ _ _ _, (wd_empty _ _ _).symm⟩
  case round =>
    obtain ⟨k, m, a', c', hkl, rfl, hrow, rfl⟩ := hrel
    have HROW := Lib.hid hrow
    clear hrow
    by_cases hlt : k < N
    · obtain ⟨x, hx⟩ : ∃ x, l[k]? = some x := ⟨_, List.getElem?_eq_getElem (by rw [HN.out]; exact hlt)⟩
      obtain ⟨bb, off, rfl, hb, c0, c1, c2, c3⟩ := vrows_at HA.out k x hx
      have HS := Lib.hid (vflat_snoc l k x hx)
      obtain ⟨xk, xv, xo, xt⟩ := x
      simp only at c0 c1 c2 c3
      clear hx
      go_wp2
      refine wp_region_mixg (fun (s : Ext) => wd w [s.e, #[.cells #[.int .i64 nx, .slice a' k c'] 32], #[.cells #[.int .i64 0, .slice none 0 0] 32], #[.cells #[.int .i64 nx, .slice (some ⟨bb, off, none⟩) N cap] 24]] s.n) (⟨m.e, m.n + 1⟩) [0, 1, 2, 3, 4, 5, 6] [7, 8, 9] 10 _ [true, true, true, true, true, true, true] [false, false, false, false, false, false, false, true, true, true] rfl rfl ⟨rfl, rfl⟩ (by kernel_rfl) (by kernel_rfl) (fun _ _ d _ _ h => by cases d <;> exact h) ?_
      apply Exists.intro
      refine ⟨?_, ?_⟩
      · intro E
        simp only [sel_t, sel_f, sel_n]
        repeat (go_big_quiet_step ((fail)))
        exact wpQuiet_nil rfl
      simp only [sel_t, sel_f, sel_n, loudR_cons, loudR_nil]
      go_wp2
      refine ⟨⟨⟨_ ++ #[_], _⟩, by rw [wd_merge]⟩, ?_⟩
      rw [loudR_cons]
      go_wp2_with (first
        | (at_builtin; refine wp_append_row rfl _ _ _ rfl 34 i0 _ 4 48 Try.underlying30 hi hz0 hz1 hz2 rfl (by decide) (.slice a' k c') k _ rfl HROW.out _ _ 1 1 rfl rfl (by simp [Value.oneCell']) (by unfold maxLen; omega) (by omega) ?_; intro v9 m9 hr9; obtain ⟨a9, c9, rfl⟩ := rowIn_slice hr9))
      refine ⟨⟨⟨m9.e, m9.n⟩, rfl⟩, ?_⟩
      rw [loudR_cons]
      go_wp2
      refine ⟨⟨⟨m9.e, m9.n⟩, rfl⟩, ?_⟩
      rw [loudR_nil]
      go_wp2
      refine ⟨trivial, ?_⟩
      go_wp2
      go_roundw
      case rel => exact ⟨k + 1, ⟨m9.e, m9.n⟩, a9, c9, by omega, by go_num, by rw [HS.out]; exact hr9, rfl⟩
      case measure => simp [intOf]; omega
    · obtain rfl : k = N := by omega
      have HR : Hid (rowIn w.heap.size [1, 1, 1] m.e 34 4 (.slice a' k c') k (l.flatMap vrCells)) := Lib.hid (by have := HROW.out; rwa [List.take_of_length_le (by rw [HN.out]; exact Nat.le_refl _)] at this)
      clear HROW
      go_wp2
      refine bodyPost_ret (v := .agg #[.int .i64 nx, .slice a' k c']) (by simp [results, Try.results10, go_sem]) rfl ⟨a', c', ?_, ?_, more_wd _ _ _, ?_⟩
      · show _ = Ending.returned (.agg #[.int .i64 nx, .slice a' l.length c'])
        rw [HN.out]
      · exact vrows_of_row (L := [_, _, _]) HN.out HR.out _
      · have := row_cap HR.out
        exact ⟨by show l.length ≤ c'; rw [HN.out]; exact this.1, this.2⟩
end Go.Proofs.Ytlanghikmccmbaa
/- law 36, ViewLooks: the document's Since. -/
namespace Go.Proofs.Ytlanghikmccmbaa
open Go.ChangeShapes Go.WideShapes Go.ChangeAt Go.RowKit
set_option linter.unusedVariables false
set_option linter.unusedSimpArgs false
/-- A row laid behind all that are no later. -/
theorem ins_sorted {F : List VRow} {x : VRow} {k : Nat} (h : SortedF VRow.offset F) (h1 : k = 0 ∨ ∃ y, F[k - 1]? = some y ∧ y.offset ≤ x.offset) (h2 : ∀ y ∈ F.drop k, x.offset < y.offset) : SortedF VRow.offset (F.take k ++ [x] ++ F.drop k) ∧ SameF VRow.offset (F.take k ++ [x] ++ F.drop k) (F ++ [x]) := by
  have ht : ∀ y ∈ F.take k, y.offset ≤ x.offset := fun y hy => by
    rcases h1 with rfl | ⟨z, hz, hle⟩
    · simp at hy
    · by_cases h0 : k = 0
      · subst h0; simp at hy
      · exact Int.le_trans (take_le h hz y (by rwa [Nat.sub_add_cancel (by omega)])) hle
  have hs : SortedF VRow.offset (F.take k ++ F.drop k) := by rw [List.take_append_drop]; exact h
  obtain ⟨s1, s2, s3⟩ := List.pairwise_append.1 hs
  constructor
  · rw [List.append_assoc]
    refine List.pairwise_append.2 ⟨s1, List.pairwise_cons.2 ⟨fun y hy => Int.le_of_lt (h2 y hy), s2⟩, fun a ha b hb => ?_⟩
    rcases List.mem_cons.1 hb with rfl | hb
    · exact ht a ha
    · exact s3 a ha b hb
  · have h3 : SameF VRow.offset ([x] ++ F.drop k) (F.drop k ++ [x]) := SameF.swap fun a ha b hb e => by
      rw [List.mem_singleton] at ha; subst ha
      have := h2 b hb; omega
    have h4 := (SameF.refl (f := VRow.offset) (F.take k)).append h3
    rw [← List.append_assoc (F.take k) (F.drop k), List.take_append_drop] at h4
    rw [List.append_assoc]; exact h4
theorem keepR_snoc' (p : VRow → Bool) (l : List VRow) (k : Nat) (x : VRow) (hx : l[k]? = some x) : keepR p (l.take (k + 1)) = keepR p (l.take k) ++ if p x = true then [] else [x] := keepR_snoc p l k x hx
theorem mid_cell' (w : World) (c : Array Value) (t : TypeId) (L : List (Array Obj)) (n i : Nat) (A : List (Array Obj)) : (wd w (A ++ #[.cells c t] :: L) n).cell? ⟨sz w.heap.size (shape L), i, none⟩ = c[i]? := by
  simp only [World.cell?, mid_at w (.cells c t) L n A]
  simp
theorem cell_lt' {W : World} {b i : Nat} {u : Value} (h : W.cell? ⟨b, i, none⟩ = some u) : b < W.heap.size := by
  rcases Nat.lt_or_ge b W.heap.size with h' | h'
  · exact h'
  · simp [World.cell?, Array.getElem?_eq_none h'] at h
theorem cell_more {w W : World} {b i : Nat} {u : Value} (h : More w W) (hc : w.cell? ⟨b, i, none⟩ = some u) : W.cell? ⟨b, i, none⟩ = some u := by
  rw [← hc]
  have := h.below.block b (cell_lt' hc)
  simp only [World.cell?, this]
theorem more_repiece {w W : World} {L : List (Array Obj)} {m : Array Obj} {n : Nat} (h : More (wd w (m :: L) n) W) : ∃ x : Ext, W = wd w (x.e :: L) x.n := by
  obtain ⟨e, k, rfl⟩ := h
  exact ⟨⟨m ++ e, k⟩, world_ext (by simp [plus, wd, hp]) rfl rfl rfl rfl⟩
/-- What the document's loop keeps. -/
structure SncI (W w : World) (a : Option Addr) (F : List VRow) (N c : Nat) (K : List VRow) : Prop where
  rows : VRowsAt W a F
  len : F.length = N
  from_ : From w.heap.size a F
  sorted : SortedF VRow.offset F
  same : SameF VRow.offset F K
  cap : N ≤ c ∧ c ≤ maxLen
set_option maxRecDepth 100000 in
set_option maxHeartbeats 8000000 in
theorem rsince_any (v : Vw) (off : Int) (a : Option Addr) (cap : Nat) (w : World) (hr : VRowsAt w a v.rows) (hl : v.rows.length ≤ 100000) :
    Calls Try.prog 18 #[.agg #[.int .i64 v.next, .slice a v.rows.length cap], .int .i64 off] w fun x w' => SncRet w w' x (keepR (fun x => decide (x.offset < off)) v.rows) := by
  obtain ⟨i0, hi, hz0, hz1, hz2⟩ := info_parts info_rrow2
  have HA := Lib.hid hr
  obtain ⟨nx, l⟩ := v
  dsimp only at HA hl ⊢
  obtain ⟨L, hL⟩ : ∃ L, l.length = L := ⟨_, rfl⟩
  have HLN := Lib.hid hL
  obtain ⟨KR, hKR⟩ : ∃ KR, keepR (fun x => decide (x.offset < off)) l = KR := ⟨_, rfl⟩
  have HKR := Lib.hid hKR
  rw [hL] at hl ⊢
  rw [hKR]
  clear hr hL hKR
  refine calls_wd ?_
  go_enter Try.func18, Try.ntmps18
  go_wp2
  go_loopw [5, 6] (fun s5 s6 wr => ∃ (k N : Nat) (F : List VRow) (m : Ext) (a' : Option Addr) (c' : Nat), k ≤ L ∧ N ≤ k ∧ s6 = .int .i64 k ∧ s5 = .slice a' N c' ∧ Hid (SncI (wd w [m.e, #[.cells #[.int .i64 nx, .slice a L cap] 24]] m.n) w a' F N c' (keepR (fun x => decide (x.offset < off)) (l.take k))) ∧ wr = wd w [m.e, #[.cells #[.int .i64 nx, .slice a L cap] 24]] m.n) (fun _ s6 _ => L - (intOf s6).toNat)
  case atStart => exact ⟨0, 0, [], ⟨#[], w.drawn⟩, none, 0, Nat.zero_le _, Nat.le_refl _, rfl, rfl, Lib.hid ⟨RowAt.nil _, rfl, From.nil _ _, List.Pairwise.nil, by simpa [keepR] using SameF.refl _, Nat.le_refl _, by decide⟩, (wd_empty _ _ _).symm⟩
  case round =>
    obtain ⟨k, N, F, m, a', c', hkL, hNk, rfl, rfl, HI, rfl⟩ := hrel
    by_cases hlt : k < L
    · obtain ⟨x, hx⟩ : ∃ x, l[k]? = some x := ⟨_, List.getElem?_eq_getElem (by rw [HLN.out]; exact hlt)⟩
      obtain ⟨bb, offs, rfl, hb, c0, c1, c2, c3⟩ := vrows_at HA.out k x hx
      have HS := Lib.hid (keepR_snoc (fun x => decide (x.offset < off)) l k x hx)
      have HX := Lib.hid hx
      obtain ⟨xk, xv, xo, xt⟩ := x
      dsimp only at c0 c1 c2 c3
      clear hx
      by_cases hof : xo < off
      · have HK2 : Hid (keepR (fun x => decide (x.offset < off)) (l.take (k + 1)) = keepR (fun x => decide (x.offset < off)) (l.take k)) := Lib.hid (by rw [HS.out]; simp [hof])
        clear HS
        go_wp2
        go_roundw
        case rel => exact ⟨k + 1, N, F, m, a', c', by omega, by omega, by go_num, rfl, Lib.hid (by rw [HK2.out]; exact HI.out), rfl⟩
        case measure => simp [intOf]; omega
      · have HK2 : Hid (keepR (fun x => decide (x.offset < off)) (l.take (k + 1)) = keepR (fun x => decide (x.offset < off)) (l.take k) ++ [⟨xk, xv, xo, xt⟩]) := Lib.hid (by rw [HS.out]; simp [hof])
        clear HS
        obtain ⟨w0, hw0⟩ : ∃ w0, wd w [m.e, #[.cells #[.int .i64 nx, .slice (some ⟨bb, offs, none⟩) L cap] 24]] m.n = w0 := ⟨_, rfl⟩
        have HM0 : Hid (More w w0) := Lib.hid (hw0 ▸ more_wd _ _ _)
        have hv1 : w0.cell? ⟨sz w.heap.size [], 1, none⟩ = some (.slice (some ⟨bb, offs, none⟩) L cap) := by rw [← hw0]; exact (mid_cell' w _ _ [] m.n 1 [m.e]).trans rfl
        have hvl := cell_lt' hv1
        have HW0 := Lib.hid hw0
        have HI0 : Hid (SncI w0 w a' F N c' (keepR (fun x => decide (x.offset < off)) (l.take k))) := Lib.hid (hw0 ▸ HI.out)
        have d0 := cell_more HM0.out c0
        have d1 := cell_more HM0.out c1
        have d2 := cell_more HM0.out c2
        have d3 := cell_more HM0.out c3
        have hb0 : bb < w0.heap.size := Nat.lt_of_lt_of_le hb HM0.out.below.size
        generalize sz w.heap.size [] = qv at hv1 hvl ⊢
        rw [hw0, ← wd_nil w0]
        clear hw0 HI c0 c1 c2 c3 hb HA
        go_wp2
        go_loopw [7] (fun s7 wr => ∃ (q : Nat) (m2 : Ext), s7 = .int .i64 q ∧ q ≤ N ∧ Hid (∀ y ∈ F.drop q, xo < y.offset) ∧ wr = wd w0 [m2.e] m2.n) (fun s7 _ => (intOf s7).toNat)
        case atStart => exact ⟨N, ⟨#[], w0.drawn⟩, rfl, Nat.le_refl _, Lib.hid (fun y hy => by rw [List.drop_of_length_le (by rw [HI0.out.len]; exact Nat.le_refl _)] at hy; cases hy), (wd_empty _ _ _).symm⟩
        case round =>
          obtain ⟨q, m2, rfl, hqN, HQ, rfl⟩ := hrel
          have HQN := Lib.hid hqN
          have done : (q = 0 ∨ ∃ y, F[q - 1]? = some y ∧ y.offset ≤ xo) → SortedF VRow.offset (F.take q ++ [(⟨xk, xv, xo, xt⟩ : VRow)] ++ F.drop q) ∧ SameF VRow.offset (F.take q ++ [(⟨xk, xv, xo, xt⟩ : VRow)] ++ F.drop q) (keepR (fun x => decide (x.offset < off)) (l.take (k + 1))) := fun h => by
            have h1 := ins_sorted (x := ⟨xk, xv, xo, xt⟩) HI0.out.sorted h HQ.out
            refine ⟨h1.1, h1.2.trans ?_⟩
            rw [HK2.out]
            exact HI0.out.same.append (SameF.refl _)
          have HDN := Lib.hid done
          clear done
          by_cases hq0 : q = 0
          · have HQ9 : Hid (q = 0 ∨ ∃ y, F[q - 1]? = some y ∧ y.offset ≤ xo) := Lib.hid (.inl hq0)
            have hqz : ¬ 0 < q := by omega
            have hqb : decide (0 < q) = false := decide_eq_false hqz
            clear hq0
            go_wp2
            refine wp_region_wd (by kernel_rfl) (by kernel_rfl) ?_
            repeat (go_big_quiet_step ((fail)))
            refine wpQuiet_nil ?_
            rintro _ ⟨mx, rfl⟩
            go_wp2
            obtain ⟨w1, hw1⟩ : ∃ w1, wd w0 [mx.e, m2.e] mx.n = w1 := ⟨_, rfl⟩
            have HM1 : Hid (More w0 w1) := Lib.hid (hw1 ▸ more_wd _ _ _)
            have e0 := cell_more HM1.out d0
            have e1 := cell_more HM1.out d1
            have e2 := cell_more HM1.out d2
            have e3 := cell_more HM1.out d3
            have ev := cell_more HM1.out hv1
            have evl := cell_lt' ev
            have eb : bb < w1.heap.size := cell_lt' e0
            obtain ⟨aT, hsT, hrT⟩ := rslice_to HI0.out.rows c' q (by rw [HI0.out.len]; exact hqN) (by rw [HI0.out.len]; exact HI0.out.cap.1)
            obtain ⟨aD, cD, hsD, hrD⟩ := rslice_from HI0.out.rows c' q (by rw [HI0.out.len]; exact hqN) (by rw [HI0.out.len]; exact HI0.out.cap.1)
            rw [HI0.out.len] at hsT hsD
            have HT : Hid (∀ W, More w1 W → RdRow W 4 (.slice aT q c') q ((F.take q).flatMap vrCells)) := Lib.hid (fun W hm => by
              have := (hrT.more (HM1.out.trans hm)).rd vrCells_len c'
              rwa [List.length_take, Nat.min_eq_left (by rw [HI0.out.len]; exact hqN)] at this)
            have HD : Hid (∀ W, More w1 W → RdRow W 4 (.slice aD (N - q) cD) (N - q) ((F.drop q).flatMap vrCells)) := Lib.hid (fun W hm => by
              have := (hrD.more (HM1.out.trans hm)).rd vrCells_len cD
              rwa [List.length_drop, HI0.out.len] at this)
            have HONE : Hid (∀ (M : List VRow), ∀ u ∈ M.flatMap vrCells, u.oneCell' = true) := Lib.hid (fun M u hu => by
              obtain ⟨x, _, hx⟩ := List.mem_flatMap.1 hu
              simp only [vrCells, List.mem_cons, List.not_mem_nil, or_false] at hx
              rcases hx with rfl | rfl | rfl | rfl <;> rfl)
            have HFL : Hid ((F.take q).flatMap vrCells ++ vrCells ⟨xk, xv, xo, xt⟩ ++ (F.drop q).flatMap vrCells = (F.take q ++ [(⟨xk, xv, xo, xt⟩ : VRow)] ++ F.drop q).flatMap vrCells ∧ (F.take q ++ [(⟨xk, xv, xo, xt⟩ : VRow)] ++ F.drop q).length = N + 1) := Lib.hid ⟨by simp, by have := HI0.out.len; simp; omega⟩
            have FIN : Hid (∀ (W : World) (v3 : Value) (n3 : Nat) (L3 : List (Array Obj)) (m3 : Ext), n3 = N + 1 → W = wd w1 (m3.e :: L3) m3.n → rowIn w1.heap.size (shape L3) m3.e 26 4 v3 n3 ((F.take q ++ [(⟨xk, xv, xo, xt⟩ : VRow)] ++ F.drop q).flatMap vrCells) → ∃ (k9 N9 : Nat) (F9 : List VRow) (m9 : Ext) (a9 : Option Addr) (c9 : Nat), k9 ≤ L ∧ N9 ≤ k9 ∧ Value.int .i64 ((k : Int) + 1) = .int .i64 k9 ∧ v3 = .slice a9 N9 c9 ∧ Hid (SncI (wd w [m9.e, #[.cells #[.int .i64 nx, .slice (some ⟨bb, offs, none⟩) L cap] 24]] m9.n) w a9 F9 N9 c9 (keepR (fun x => decide (x.offset < off)) (l.take k9))) ∧ W = wd w [m9.e, #[.cells #[.int .i64 nx, .slice (some ⟨bb, offs, none⟩) L cap] 24]] m9.n) := Lib.hid (fun W v3 n3 L3 m3 hn hW hr3 => by
              subst hn
              obtain ⟨a3, c3, rfl⟩ := rowIn_slice hr3
              have hMW : More (wd w [m.e, #[.cells #[.int .i64 nx, .slice (some ⟨bb, offs, none⟩) L cap] 24]] m.n) W := by rw [HW0.out, hW]; exact HM1.out.trans (more_wd _ _ _)
              obtain ⟨x9, hx9⟩ := more_repiece hMW
              refine ⟨k + 1, N + 1, F.take q ++ [(⟨xk, xv, xo, xt⟩ : VRow)] ++ F.drop q, x9, a3, c3, by omega, by omega, by go_num, rfl, Lib.hid ?_, hx9⟩
              rw [← hx9]
              refine ⟨by rw [hW]; exact vrows_of_row (L := L3) HFL.out.2 hr3 m3.n, HFL.out.2, (from_row hr3 HFL.out.2).le (Nat.le_trans HM0.out.below.size HM1.out.below.size), (HDN.out HQ9.out).1, (HDN.out HQ9.out).2, row_cap hr3⟩)
            rw [hw1, ← wd_nil w1]
            clear hw1 hrT hrD HDN HW0
            go_wp2
            refine wp_region_tree (overF w1 ([])) _ [0, 1, 2, 3, 5, 6, 7, 8, 9, 12, 13, 14] (.two 4 10 (.one 10 (.one 11 (.one 15 (.one 16 .done)))) (.one 4 (.one 11 (.one 15 (.one 16 .done))))) [true, true, true, true, false, true, true, true, true, true, false, false, true, true, true] (overF_0 _ _ _) rfl (by kernel_rfl) (by kernel_rfl) (fun _ _ d _ _ h => by cases d <;> exact h) ?_
            apply Exists.intro
            refine ⟨?_, ?_⟩
            · intro E
              simp only [sel_t, sel_f, sel_n]
              try unfold overF
              repeat (go_big_quiet_step ((fail)))
              exact wpQuiet_nil rfl
            rw [wd_drew]
            refine louds_two [false, false, false, false, true] [false, false, false, false, false, false, false, false, false, false, true] rfl rfl ?_ ?_
            all_goals (simp only [sel_t, sel_f, sel_n])
            focus
              refine wp_append_src rfl _ _ _ rfl 26 i0 _ 4 48 Try.underlying22 hi hz0 hz1 hz2 rfl (by decide) (m := #[]) (L := []) (wd_empty _ _ _).symm (.slice none 0 0) 0 [] rfl (rowIn_nil _ _ _ _ _) _ q _ rfl (HT.out _ (more_wd _ _ _)) (HONE.out _) (by unfold maxLen; omega) (by omega) ?_
              intro v1 m1 hr1
              refine ⟨ov_cons _ (ov_refl _ _ _), ?_⟩
              refine louds_one [false, false, false, false, false, false, false, false, false, false, true] rfl ?_
              simp only [sel_t, sel_f, sel_n]
              go_wp2
              refine ⟨ov_cons _ (ov_cons _ (ov_refl _ _ _)), ?_⟩
              refine louds_one [false, false, false, false, false, false, false, false, false, false, false, true] rfl ?_
              simp only [sel_t, sel_f, sel_n]
              refine wp_append_row (L := []) rfl _ _ _ rfl 26 i0 _ 4 48 Try.underlying22 hi hz0 hz1 hz2 rfl (by decide) v1 _ _ rfl hr1 _ _ 1 1 rfl rfl (by simp [Value.oneCell']) (by unfold maxLen; omega) (by omega) ?_
              intro v2 m2 hr2
              refine ⟨ov_cons _ (ov_refl _ _ _), ?_⟩
              refine louds_one [false, false, false, false, false, false, false, false, false, false, false, false, false, false, false, true] rfl ?_
              simp only [sel_t, sel_f, sel_n]
              refine wp_append_src rfl _ _ _ rfl 26 i0 _ 4 48 Try.underlying22 hi hz0 hz1 hz2 rfl (by decide) (L := []) rfl v2 _ _ rfl hr2 _ (N - q) _ rfl (HD.out _ (more_wd _ _ _)) (HONE.out _) (by unfold maxLen; omega) (by omega) ?_
              intro v3 m3 hr3
              refine ⟨ov_cons _ (ov_refl _ _ _), ?_⟩
              refine louds_one [false, false, false, false, false, false, false, false, false, false, false, false, false, false, false, false, true] rfl ?_
              simp only [sel_t, sel_f, sel_n]
              go_wp2
              refine ⟨ov_cons _ (ov_refl _ _ _), ?_⟩
              refine louds_done ?_
              go_wp2
              go_roundw
              case rel => exact FIN.out _ v3 (0 + q + 1 + (N - q)) [] m3 (by have := HQN.out; omega) rfl (by rw [← HFL.out.1]; exact hr3)
              case measure => simp [intOf]; omega
            focus
              go_wp2
              refine ⟨ov_cons _ (ov_refl _ _ _), ?_⟩
              refine louds_one [false, false, false, false, true] rfl ?_
              simp only [sel_t, sel_f, sel_n]
              refine wp_append_src rfl _ _ _ rfl 26 i0 _ 4 48 Try.underlying22 hi hz0 hz1 hz2 rfl (by decide) (m := #[]) (L := [_]) (wd_empty _ _ _).symm (.slice none 0 0) 0 [] rfl (rowIn_nil _ _ _ _ _) _ q _ rfl (HT.out _ (more_wd _ _ _)) (HONE.out _) (by unfold maxLen; omega) (by omega) ?_
              intro v1 m1 hr1
              refine ⟨ov_cons _ (ov_cons _ (ov_refl _ _ _)), ?_⟩
              refine louds_one [false, false, false, false, false, false, false, false, false, false, false, true] rfl ?_
              simp only [sel_t, sel_f, sel_n]
              refine wp_append_src rfl _ _ _ rfl 26 i0 _ 4 48 Try.underlying22 hi hz0 hz1 hz2 rfl (by decide) (L := [_]) rfl v1 _ _ rfl hr1 _ 1 _ rfl (RowAt.rd ((lit_row w1 [] 0 ⟨xk, xv, xo, xt⟩ _).more (more_top _ _ 0 _ _)) vrCells_len 1) (HONE.out _) (by unfold maxLen; omega) (by omega) ?_
              intro v2 m2 hr2
              refine ⟨ov_cons _ (ov_cons _ (ov_refl _ _ _)), ?_⟩
              refine louds_one [false, false, false, false, false, false, false, false, false, false, false, false, false, false, false, true] rfl ?_
              simp only [sel_t, sel_f, sel_n]
              refine wp_append_src rfl _ _ _ rfl 26 i0 _ 4 48 Try.underlying22 hi hz0 hz1 hz2 rfl (by decide) (L := [_]) rfl v2 _ _ rfl hr2 _ (N - q) _ rfl (HD.out _ (more_wd _ _ _)) (HONE.out _) (by unfold maxLen; omega) (by omega) ?_
              intro v3 m3 hr3
              refine ⟨ov_cons _ (ov_cons _ (ov_refl _ _ _)), ?_⟩
              refine louds_one [false, false, false, false, false, false, false, false, false, false, false, false, false, false, false, false, true] rfl ?_
              simp only [sel_t, sel_f, sel_n]
              go_wp2
              refine ⟨ov_cons _ (ov_cons _ (ov_refl _ _ _)), ?_⟩
              refine louds_done ?_
              go_wp2
              go_roundw
              case rel => exact FIN.out _ v3 (0 + q + 1 + (N - q)) [_] m3 (by have := HQN.out; omega) rfl (by rw [← HFL.out.1]; simpa [vrCells] using hr3)
              case measure => simp [intOf]; omega
          · have hqz : 0 < q := by omega
            have hqb : decide (0 < q) = true := decide_eq_true hqz
            obtain ⟨r, hr0⟩ : ∃ r, q - 1 = r := ⟨_, rfl⟩
            have hrz : (q : Int) - 1 = (r : Int) := by omega
            have hr1 : r + 1 ≤ q := by omega
            have HRQ : Hid (q = r + 1) := Lib.hid (by omega)
            clear hr0
            obtain ⟨y, hy⟩ : ∃ y, F[r]? = some y := ⟨_, List.getElem?_eq_getElem (by rw [HI0.out.len]; omega)⟩
            obtain ⟨b2, o2, rfl, hb2, p0, p1, p2, p3⟩ := vrows_at HI0.out.rows r y hy
            have HY := Lib.hid hy
            clear hy
            obtain ⟨yk, yv, yo, yt⟩ := y
            dsimp only at p0 p1 p2 p3
            by_cases hlt2 : xo < yo
            · have HLT := Lib.hid hlt2
              go_wp2
              refine wp_region_wd (by kernel_rfl) (by kernel_rfl) ?_
              repeat (go_big_quiet_step ((fail)))
              refine wpQuiet_nil ?_
              rintro _ ⟨mx, rfl⟩
              go_wp2
              go_roundw
              case rel => exact ⟨r, ⟨m2.e ++ mx.e, mx.n⟩, by first | rfl | go_num, by omega, Lib.hid (fun z hz => by
                rw [List.drop_eq_getElem_cons (List.getElem?_eq_some_iff.1 HY.out).1, (List.getElem?_eq_some_iff.1 HY.out).2] at hz
                rcases List.mem_cons.1 hz with rfl | hz
                · exact HLT.out
                · exact HQ.out z (by rw [HRQ.out]; exact hz)), by rw [wd_merge]⟩
              case measure => simp [intOf]; omega
            · have HQ9 : Hid (q = 0 ∨ ∃ y, F[q - 1]? = some y ∧ y.offset ≤ xo) := Lib.hid (.inr ⟨_, by rw [HRQ.out, Nat.add_sub_cancel]; exact HY.out, by dsimp only; omega⟩)
              go_wp2
              refine wp_region_wd (by kernel_rfl) (by kernel_rfl) ?_
              repeat (go_big_quiet_step ((fail)))
              refine wpQuiet_nil ?_
              rintro _ ⟨mx, rfl⟩
              go_wp2
              obtain ⟨w1, hw1⟩ : ∃ w1, wd w0 [mx.e, m2.e] mx.n = w1 := ⟨_, rfl⟩
              have HM1 : Hid (More w0 w1) := Lib.hid (hw1 ▸ more_wd _ _ _)
              have e0 := cell_more HM1.out d0
              have e1 := cell_more HM1.out d1
              have e2 := cell_more HM1.out d2
              have e3 := cell_more HM1.out d3
              have ev := cell_more HM1.out hv1
              have evl := cell_lt' ev
              have eb : bb < w1.heap.size := cell_lt' e0
              obtain ⟨aT, hsT, hrT⟩ := rslice_to HI0.out.rows c' q (by rw [HI0.out.len]; exact hqN) (by rw [HI0.out.len]; exact HI0.out.cap.1)
              obtain ⟨aD, cD, hsD, hrD⟩ := rslice_from HI0.out.rows c' q (by rw [HI0.out.len]; exact hqN) (by rw [HI0.out.len]; exact HI0.out.cap.1)
              rw [HI0.out.len] at hsT hsD
              have HT : Hid (∀ W, More w1 W → RdRow W 4 (.slice aT q c') q ((F.take q).flatMap vrCells)) := Lib.hid (fun W hm => by
                have := (hrT.more (HM1.out.trans hm)).rd vrCells_len c'
                rwa [List.length_take, Nat.min_eq_left (by rw [HI0.out.len]; exact hqN)] at this)
              have HD : Hid (∀ W, More w1 W → RdRow W 4 (.slice aD (N - q) cD) (N - q) ((F.drop q).flatMap vrCells)) := Lib.hid (fun W hm => by
                have := (hrD.more (HM1.out.trans hm)).rd vrCells_len cD
                rwa [List.length_drop, HI0.out.len] at this)
              have HONE : Hid (∀ (M : List VRow), ∀ u ∈ M.flatMap vrCells, u.oneCell' = true) := Lib.hid (fun M u hu => by
                obtain ⟨x, _, hx⟩ := List.mem_flatMap.1 hu
                simp only [vrCells, List.mem_cons, List.not_mem_nil, or_false] at hx
                rcases hx with rfl | rfl | rfl | rfl <;> rfl)
              have HFL : Hid ((F.take q).flatMap vrCells ++ vrCells ⟨xk, xv, xo, xt⟩ ++ (F.drop q).flatMap vrCells = (F.take q ++ [(⟨xk, xv, xo, xt⟩ : VRow)] ++ F.drop q).flatMap vrCells ∧ (F.take q ++ [(⟨xk, xv, xo, xt⟩ : VRow)] ++ F.drop q).length = N + 1) := Lib.hid ⟨by simp, by have := HI0.out.len; simp; omega⟩
              have FIN : Hid (∀ (W : World) (v3 : Value) (n3 : Nat) (L3 : List (Array Obj)) (m3 : Ext), n3 = N + 1 → W = wd w1 (m3.e :: L3) m3.n → rowIn w1.heap.size (shape L3) m3.e 26 4 v3 n3 ((F.take q ++ [(⟨xk, xv, xo, xt⟩ : VRow)] ++ F.drop q).flatMap vrCells) → ∃ (k9 N9 : Nat) (F9 : List VRow) (m9 : Ext) (a9 : Option Addr) (c9 : Nat), k9 ≤ L ∧ N9 ≤ k9 ∧ Value.int .i64 ((k : Int) + 1) = .int .i64 k9 ∧ v3 = .slice a9 N9 c9 ∧ Hid (SncI (wd w [m9.e, #[.cells #[.int .i64 nx, .slice (some ⟨bb, offs, none⟩) L cap] 24]] m9.n) w a9 F9 N9 c9 (keepR (fun x => decide (x.offset < off)) (l.take k9))) ∧ W = wd w [m9.e, #[.cells #[.int .i64 nx, .slice (some ⟨bb, offs, none⟩) L cap] 24]] m9.n) := Lib.hid (fun W v3 n3 L3 m3 hn hW hr3 => by
                subst hn
                obtain ⟨a3, c3, rfl⟩ := rowIn_slice hr3
                have hMW : More (wd w [m.e, #[.cells #[.int .i64 nx, .slice (some ⟨bb, offs, none⟩) L cap] 24]] m.n) W := by rw [HW0.out, hW]; exact HM1.out.trans (more_wd _ _ _)
                obtain ⟨x9, hx9⟩ := more_repiece hMW
                refine ⟨k + 1, N + 1, F.take q ++ [(⟨xk, xv, xo, xt⟩ : VRow)] ++ F.drop q, x9, a3, c3, by omega, by omega, by go_num, rfl, Lib.hid ?_, hx9⟩
                rw [← hx9]
                refine ⟨by rw [hW]; exact vrows_of_row (L := L3) HFL.out.2 hr3 m3.n, HFL.out.2, (from_row hr3 HFL.out.2).le (Nat.le_trans HM0.out.below.size HM1.out.below.size), (HDN.out HQ9.out).1, (HDN.out HQ9.out).2, row_cap hr3⟩)
              rw [hw1, ← wd_nil w1]
              clear hw1 hrT hrD HDN HW0
              go_wp2
              refine wp_region_tree (overF w1 ([])) _ [0, 1, 2, 3, 5, 6, 7, 8, 9, 12, 13, 14] (.two 4 10 (.one 10 (.one 11 (.one 15 (.one 16 .done)))) (.one 4 (.one 11 (.one 15 (.one 16 .done))))) [true, true, true, true, false, true, true, true, true, true, false, false, true, true, true] (overF_0 _ _ _) rfl (by kernel_rfl) (by kernel_rfl) (fun _ _ d _ _ h => by cases d <;> exact h) ?_
              apply Exists.intro
              refine ⟨?_, ?_⟩
              · intro E
                simp only [sel_t, sel_f, sel_n]
                try unfold overF
                repeat (go_big_quiet_step ((fail)))
                exact wpQuiet_nil rfl
              rw [wd_drew]
              refine louds_two [false, false, false, false, true] [false, false, false, false, false, false, false, false, false, false, true] rfl rfl ?_ ?_
              all_goals (simp only [sel_t, sel_f, sel_n])
              focus
                refine wp_append_src rfl _ _ _ rfl 26 i0 _ 4 48 Try.underlying22 hi hz0 hz1 hz2 rfl (by decide) (m := #[]) (L := []) (wd_empty _ _ _).symm (.slice none 0 0) 0 [] rfl (rowIn_nil _ _ _ _ _) _ q _ rfl (HT.out _ (more_wd _ _ _)) (HONE.out _) (by unfold maxLen; omega) (by omega) ?_
                intro v1 m1 hr1
                refine ⟨ov_cons _ (ov_refl _ _ _), ?_⟩
                refine louds_one [false, false, false, false, false, false, false, false, false, false, true] rfl ?_
                simp only [sel_t, sel_f, sel_n]
                go_wp2
                refine ⟨ov_cons _ (ov_cons _ (ov_refl _ _ _)), ?_⟩
                refine louds_one [false, false, false, false, false, false, false, false, false, false, false, true] rfl ?_
                simp only [sel_t, sel_f, sel_n]
                refine wp_append_row (L := []) rfl _ _ _ rfl 26 i0 _ 4 48 Try.underlying22 hi hz0 hz1 hz2 rfl (by decide) v1 _ _ rfl hr1 _ _ 1 1 rfl rfl (by simp [Value.oneCell']) (by unfold maxLen; omega) (by omega) ?_
                intro v2 m2 hr2
                refine ⟨ov_cons _ (ov_refl _ _ _), ?_⟩
                refine louds_one [false, false, false, false, false, false, false, false, false, false, false, false, false, false, false, true] rfl ?_
                simp only [sel_t, sel_f, sel_n]
                refine wp_append_src rfl _ _ _ rfl 26 i0 _ 4 48 Try.underlying22 hi hz0 hz1 hz2 rfl (by decide) (L := []) rfl v2 _ _ rfl hr2 _ (N - q) _ rfl (HD.out _ (more_wd _ _ _)) (HONE.out _) (by unfold maxLen; omega) (by omega) ?_
                intro v3 m3 hr3
                refine ⟨ov_cons _ (ov_refl _ _ _), ?_⟩
                refine louds_one [false, false, false, false, false, false, false, false, false, false, false, false, false, false, false, false, true] rfl ?_
                simp only [sel_t, sel_f, sel_n]
                go_wp2
                refine ⟨ov_cons _ (ov_refl _ _ _), ?_⟩
                refine louds_done ?_
                go_wp2
                go_roundw
                case rel => exact FIN.out _ v3 (0 + q + 1 + (N - q)) [] m3 (by have := HQN.out; omega) rfl (by rw [← HFL.out.1]; exact hr3)
                case measure => simp [intOf]; omega
              focus
                go_wp2
                refine ⟨ov_cons _ (ov_refl _ _ _), ?_⟩
                refine louds_one [false, false, false, false, true] rfl ?_
                simp only [sel_t, sel_f, sel_n]
                refine wp_append_src rfl _ _ _ rfl 26 i0 _ 4 48 Try.underlying22 hi hz0 hz1 hz2 rfl (by decide) (m := #[]) (L := [_]) (wd_empty _ _ _).symm (.slice none 0 0) 0 [] rfl (rowIn_nil _ _ _ _ _) _ q _ rfl (HT.out _ (more_wd _ _ _)) (HONE.out _) (by unfold maxLen; omega) (by omega) ?_
                intro v1 m1 hr1
                refine ⟨ov_cons _ (ov_cons _ (ov_refl _ _ _)), ?_⟩
                refine louds_one [false, false, false, false, false, false, false, false, false, false, false, true] rfl ?_
                simp only [sel_t, sel_f, sel_n]
                refine wp_append_src rfl _ _ _ rfl 26 i0 _ 4 48 Try.underlying22 hi hz0 hz1 hz2 rfl (by decide) (L := [_]) rfl v1 _ _ rfl hr1 _ 1 _ rfl (RowAt.rd ((lit_row w1 [] 0 ⟨xk, xv, xo, xt⟩ _).more (more_top _ _ 0 _ _)) vrCells_len 1) (HONE.out _) (by unfold maxLen; omega) (by omega) ?_
                intro v2 m2 hr2
                refine ⟨ov_cons _ (ov_cons _ (ov_refl _ _ _)), ?_⟩
                refine louds_one [false, false, false, false, false, false, false, false, false, false, false, false, false, false, false, true] rfl ?_
                simp only [sel_t, sel_f, sel_n]
                refine wp_append_src rfl _ _ _ rfl 26 i0 _ 4 48 Try.underlying22 hi hz0 hz1 hz2 rfl (by decide) (L := [_]) rfl v2 _ _ rfl hr2 _ (N - q) _ rfl (HD.out _ (more_wd _ _ _)) (HONE.out _) (by unfold maxLen; omega) (by omega) ?_
                intro v3 m3 hr3
                refine ⟨ov_cons _ (ov_cons _ (ov_refl _ _ _)), ?_⟩
                refine louds_one [false, false, false, false, false, false, false, false, false, false, false, false, false, false, false, false, true] rfl ?_
                simp only [sel_t, sel_f, sel_n]
                go_wp2
                refine ⟨ov_cons _ (ov_cons _ (ov_refl _ _ _)), ?_⟩
                refine louds_done ?_
                go_wp2
                go_roundw
                case rel => exact FIN.out _ v3 (0 + q + 1 + (N - q)) [_] m3 (by have := HQN.out; omega) rfl (by rw [← HFL.out.1]; simpa [vrCells] using hr3)
                case measure => simp [intOf]; omega
    · obtain rfl : k = L := by omega
      go_wp2
      go_ret
      have h := HI.out
      rw [List.take_of_length_le (by rw [HLN.out]; exact Nat.le_refl _), HKR.out] at h
      exact ⟨F, ⟨a', c', by rw [h.len]; rfl, h.rows, more_wd _ _ _, h.from_⟩, h.sorted, h.same⟩
end Go.Proofs.Ytlanghikmccmbaa
