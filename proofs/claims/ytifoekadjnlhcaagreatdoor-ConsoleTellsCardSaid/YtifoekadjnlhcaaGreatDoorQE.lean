/- console: the document's asked (printed by gen/ctg.py). -/
import Derived.Test.YtifoekadjnlhcaaGreatDoorQD
namespace Go.Proofs.YtifoekadjnlhcaaGreatDoor
open Go.ChangeShapes Go.WideShapes Go.ChangeAt Go.RowKit
set_option linter.unusedVariables false
set_option linter.unusedSimpArgs false
theorem lines_more {w W1 : World} {w' : World} {e : Ending} {ls : List Word} (hm : More w W1) (h : LinesRet W1 w' e ls) : LinesRet w w' e ls := by
  obtain ⟨v, x, n, rfl, rfl, hs⟩ := h.out
  obtain ⟨y, m, hy⟩ := hm.trans (show More W1 (plus W1 x n) from ⟨x, n, rfl⟩)
  exact ⟨v, y, m, rfl, hy, hs⟩
set_option maxRecDepth 100000 in
set_option maxHeartbeats 3200000 in
theorem rasked0 (k0 er off nx : Int) (db : Bool) (ge : Int) (bv pv nv : Value) (ps : List Int) (ns : List Word) (w : World) (hp : ZRd w pv ps) (hn : SRd w nv ns) (hT : Told1 off nx ge ps ns) : Calls Tryz.prog 39 #[.int .u8 0, .agg #[.int .u8 k0, .int .i64 er, .int .i64 off, .int .i64 nx, .bool db, .int .i64 ge, bv, pv, nv]] w fun e w' => LinesRet w w' e [askedW 0 off nx db ge ps ns] := by
  have HT := Lib.hid hT
  have HDoff := Lib.hid (fun W => rdigI_any off (bd_of hT.off).1 (bd_of hT.off).2 W)
  have hloff := digI_len (bd_of hT.off)
  obtain ⟨Doff, hDoff⟩ : ∃ D, digI off = D := ⟨_, rfl⟩
  rw [hDoff] at HDoff hloff
  obtain ⟨T1, hT1⟩ : ∃ T, [116, 111, 112, 105, 99, 32] ++ Doff = T := ⟨_, rfl⟩
  have hL1 : T1.length ≤ 200 := by rw [← hT1]; simp; omega
  have ha1 := saddT (P := Tryz.prog) hT1 (by omega)
  rw [show str [116, 111, 112, 105, 99, 32] = { data := #[116, 111, 112, 105, 99, 32] } from rfl] at ha1
  have HA : Hid (askedW 0 off nx db ge ps ns = T1) := Lib.hid (by rw [← hT1, ← hDoff]; rfl)
  clear hT hp hn hDoff hloff hT1
  refine calls_wd ?_
  go_enter Tryz.func39, Tryz.ntmps39
  go_wp2_with (first | (go_at_call 14; ((with_reducible refine (HDoff.out _).mono ?_); rintro e w1 ⟨rfl, x1, n1, rfl⟩)))
  go_ret
  rw [HA.out]
  exact lines_one (by first | omega | decide)
set_option maxRecDepth 100000 in
set_option maxHeartbeats 3200000 in
theorem rasked8 (k0 er off nx : Int) (db : Bool) (ge : Int) (bv pv nv : Value) (ps : List Int) (ns : List Word) (w : World) (hp : ZRd w pv ps) (hn : SRd w nv ns) (hT : Told1 off nx ge ps ns) : Calls Tryz.prog 39 #[.int .u8 8, .agg #[.int .u8 k0, .int .i64 er, .int .i64 off, .int .i64 nx, .bool db, .int .i64 ge, bv, pv, nv]] w fun e w' => LinesRet w w' e [askedW 8 off nx db ge ps ns] := by
  have HT := Lib.hid hT
  have HDge := Lib.hid (fun W => rdigI_any ge (bd_of hT.ge).1 (bd_of hT.ge).2 W)
  have hlge := digI_len (bd_of hT.ge)
  obtain ⟨Dge, hDge⟩ : ∃ D, digI ge = D := ⟨_, rfl⟩
  rw [hDge] at HDge hlge
  obtain ⟨T1, hT1⟩ : ∃ T, [103, 101, 110, 32] ++ Dge = T := ⟨_, rfl⟩
  have hL1 : T1.length ≤ 200 := by rw [← hT1]; simp; omega
  have ha1 := saddT (P := Tryz.prog) hT1 (by omega)
  rw [show str [103, 101, 110, 32] = { data := #[103, 101, 110, 32] } from rfl] at ha1
  have HA : Hid (askedW 8 off nx db ge ps ns = T1) := Lib.hid (by rw [← hT1, ← hDge]; rfl)
  clear hT hp hn hDge hlge hT1
  refine calls_wd ?_
  go_enter Tryz.func39, Tryz.ntmps39
  go_wp2_with (first | (go_at_call 14; ((with_reducible refine (HDge.out _).mono ?_); rintro e w1 ⟨rfl, x1, n1, rfl⟩)))
  go_ret
  rw [HA.out]
  exact lines_one (by first | omega | decide)
set_option maxRecDepth 100000 in
set_option maxHeartbeats 3200000 in
theorem rasked2 (k0 er off nx : Int) (db : Bool) (ge : Int) (bv pv nv : Value) (ps : List Int) (ns : List Word) (w : World) (hp : ZRd w pv ps) (hn : SRd w nv ns) (hT : Told1 off nx ge ps ns) : Calls Tryz.prog 39 #[.int .u8 2, .agg #[.int .u8 k0, .int .i64 er, .int .i64 off, .int .i64 nx, .bool db, .int .i64 ge, bv, pv, nv]] w fun e w' => LinesRet w w' e [askedW 2 off nx db ge ps ns] := by
  have HT := Lib.hid hT
  have HDoff := Lib.hid (fun W => rdigI_any off (bd_of hT.off).1 (bd_of hT.off).2 W)
  have hloff := digI_len (bd_of hT.off)
  obtain ⟨Doff, hDoff⟩ : ∃ D, digI off = D := ⟨_, rfl⟩
  rw [hDoff] at HDoff hloff
  have HDnx := Lib.hid (fun W => rdigI_any nx (bd_of hT.nx).1 (bd_of hT.nx).2 W)
  have hlnx := digI_len (bd_of hT.nx)
  obtain ⟨Dnx, hDnx⟩ : ∃ D, digI nx = D := ⟨_, rfl⟩
  rw [hDnx] at HDnx hlnx
  have HP := Lib.hid (fun W g => rnums_any ps pv W g hT.np hT.ps)
  have HZ := Lib.hid (fun W (hm : More w W) => hp.more hm)
  have hlp := numsW_len hT.ps
  have hnp := hT.np
  obtain ⟨DP, hDP⟩ : ∃ D, numsW ps = D := ⟨_, rfl⟩
  rw [hDP] at HP hlp
  obtain ⟨T1, hT1⟩ : ∃ T, [116, 111, 112, 105, 99, 32] ++ Doff = T := ⟨_, rfl⟩
  obtain ⟨T2, hT2⟩ : ∃ T, T1 ++ [32] = T := ⟨_, rfl⟩
  obtain ⟨T3, hT3⟩ : ∃ T, T2 ++ Dnx = T := ⟨_, rfl⟩
  obtain ⟨T4, hT4⟩ : ∃ T, T3 ++ DP = T := ⟨_, rfl⟩
  have hL1 : T1.length ≤ 200 := by rw [← hT1]; simp; omega
  have ha1 := saddT (P := Tryz.prog) hT1 (by omega)
  have hL2 : T2.length ≤ 400 := by rw [← hT2]; simp; omega
  have ha2 := saddT (P := Tryz.prog) hT2 (by omega)
  have hL3 : T3.length ≤ 600 := by rw [← hT3]; simp; omega
  have ha3 := saddT (P := Tryz.prog) hT3 (by omega)
  have hL4 : T4.length ≤ 40000 := by rw [← hT4]; simp; omega
  have ha4 := saddT (P := Tryz.prog) hT4 (by omega)
  rw [show str [116, 111, 112, 105, 99, 32] = { data := #[116, 111, 112, 105, 99, 32] } from rfl] at ha1
  rw [show str [32] = { data := #[32] } from rfl] at ha2
  have HA : Hid (askedW 2 off nx db ge ps ns = T4) := Lib.hid (by rw [← hT4, ← hT3, ← hT2, ← hT1, ← hDoff, ← hDnx, ← hDP]; rfl)
  clear hT hp hn hDoff hloff hDnx hlnx hDP hlp hT1 hT2 hT3 hT4
  refine calls_wd ?_
  go_enter Tryz.func39, Tryz.ntmps39
  go_wp2
  obtain ⟨W1, hW1⟩ : ∃ W1, wd w [#[.cells #[.int .u8 k0, .int .i64 er, .int .i64 off, .int .i64 nx, .bool db, .int .i64 ge, bv, pv, nv] 46]] w.drawn = W1 := ⟨_, rfl⟩
  generalize hqr : sz w.heap.size [] = qr
  have HM1 : Hid (More w W1) := Lib.hid (hW1 ▸ more_wd _ _ _)
  have h1 : W1.heap[qr]? = some (.cells #[.int .u8 k0, .int .i64 er, .int .i64 off, .int .i64 nx, .bool db, .int .i64 ge, bv, pv, nv] 46 (0, 0)) := by rw [← hW1, ← hqr]; exact wd_at w [] _ _ _ _ rfl rfl
  have hlt := lt_of_blk h1
  have c2 : W1.cell? ⟨qr, 2, none⟩ = some (.int .i64 off) := by rw [Lib.cell_of_heap h1]; rfl
  have c3 : W1.cell? ⟨qr, 3, none⟩ = some (.int .i64 nx) := by rw [Lib.cell_of_heap h1]; rfl
  have c4 : W1.cell? ⟨qr, 4, none⟩ = some (.bool db) := by rw [Lib.cell_of_heap h1]; rfl
  have c5 : W1.cell? ⟨qr, 5, none⟩ = some (.int .i64 ge) := by rw [Lib.cell_of_heap h1]; rfl
  have c7 : W1.cell? ⟨qr, 7, none⟩ = some (pv) := by rw [Lib.cell_of_heap h1]; rfl
  have c8 : W1.cell? ⟨qr, 8, none⟩ = some (nv) := by rw [Lib.cell_of_heap h1]; rfl
  rw [hW1, ← wd_nil W1]
  clear hW1 hqr h1
  refine wp_region_chain (fun (m : Ext) => wd W1 [m.e] m.n) (⟨#[], W1.drawn + 1⟩) [([0, 1, 5, 6, 9, 10], 2), ([3, 4], 7), ([8], 11), ([12], 13)] [14] [([true, true, false, false, false, true, true, false, false, true, true], [false, false, true]), ([false, false, false, true, true], [false, false, false, false, false, false, false, true]), ([false, false, false, false, false, false, false, false, true], [false, false, false, false, false, false, false, false, false, false, false, true]), ([false, false, false, false, false, false, false, false, false, false, false, false, true], [false, false, false, false, false, false, false, false, false, false, false, false, false, true])] [false, false, false, false, false, false, false, false, false, false, false, false, false, false, true] rfl rfl ⟨rfl, rfl, rfl, rfl, rfl, rfl, rfl, rfl, trivial⟩ (by kernel_rfl) (by kernel_rfl) (fun _ _ d _ _ h => by cases d <;> exact h) ?_
  refine ⟨rfl, ?_⟩
  apply Exists.intro
  refine ⟨?_, ?_⟩
  · intro E
    simp only [sel_t, sel_f, sel_n]
    repeat (go_big_quiet_step ((fail)))
    exact wpQuiet_nil rfl
  simp only [sel_t, sel_f, sel_n]
  go_wp2_with (first | (go_at_call 14; ((with_reducible refine (HDoff.out _).mono ?_); rintro e w1 ⟨rfl, x1, n1, rfl⟩)))
  refine ⟨cls_wd _ _ _, ?_⟩
  refine ⟨rfl, ?_⟩
  apply Exists.intro
  refine ⟨?_, ?_⟩
  · intro E
    simp only [sel_t, sel_f, sel_n]
    repeat (go_big_quiet_step ((fail)))
    exact wpQuiet_nil rfl
  try simp only [sel_t, sel_f, sel_n]
  go_wp2_with (first | (go_at_call 14; ((with_reducible refine (HDnx.out _).mono ?_); rintro e w1 ⟨rfl, x1, n1, rfl⟩)))
  refine ⟨cls_wd _ _ _, ?_⟩
  refine ⟨rfl, ?_⟩
  apply Exists.intro
  refine ⟨?_, ?_⟩
  · intro E
    simp only [sel_t, sel_f, sel_n]
    repeat (go_big_quiet_step ((fail)))
    exact wpQuiet_nil rfl
  try simp only [sel_t, sel_f, sel_n]
  go_wp2_with (first | (go_at_call 60; ((with_reducible refine (HP.out _ (HZ.out _ (HM1.out.trans (more_wd _ _ _)))).mono ?_); rintro e w1 ⟨rfl, x1, n1, rfl⟩)))
  refine ⟨cls_wd _ _ _, ?_⟩
  refine ⟨rfl, ?_⟩
  apply Exists.intro
  refine ⟨?_, ?_⟩
  · intro E
    simp only [sel_t, sel_f, sel_n]
    repeat (go_big_quiet_step ((fail)))
    exact wpQuiet_nil rfl
  try simp only [sel_t, sel_f, sel_n]
  go_wp2
  refine ⟨cls_wd _ _ _, ?_⟩
  refine ⟨rfl, ?_⟩
  apply Exists.intro
  refine ⟨?_, ?_⟩
  · intro E
    simp only [sel_t, sel_f, sel_n]
    repeat (go_big_quiet_step ((fail)))
    exact wpQuiet_nil rfl
  try simp only [sel_t, sel_f, sel_n]
  go_wp2
  go_ret
  rw [HA.out]
  exact lines_more HM1.out (lines_one (by omega))
set_option maxRecDepth 100000 in
set_option maxHeartbeats 3200000 in
theorem rasked7 (k0 er off nx : Int) (db : Bool) (ge : Int) (bv pv nv : Value) (ps : List Int) (ns : List Word) (w : World) (hp : ZRd w pv ps) (hn : SRd w nv ns) (hT : Told1 off nx ge ps ns) : Calls Tryz.prog 39 #[.int .u8 7, .agg #[.int .u8 k0, .int .i64 er, .int .i64 off, .int .i64 nx, .bool db, .int .i64 ge, bv, pv, nv]] w fun e w' => LinesRet w w' e [askedW 7 off nx db ge ps ns] := by
  have HT := Lib.hid hT
  have HDge := Lib.hid (fun W => rdigI_any ge (bd_of hT.ge).1 (bd_of hT.ge).2 W)
  have hlge := digI_len (bd_of hT.ge)
  obtain ⟨Dge, hDge⟩ : ∃ D, digI ge = D := ⟨_, rfl⟩
  rw [hDge] at HDge hlge
  have HP := Lib.hid (fun W g => rnums_any ps pv W g hT.np hT.ps)
  have HZ := Lib.hid (fun W (hm : More w W) => hp.more hm)
  have hlp := numsW_len hT.ps
  have hnp := hT.np
  obtain ⟨DP, hDP⟩ : ∃ D, numsW ps = D := ⟨_, rfl⟩
  rw [hDP] at HP hlp
  obtain ⟨T1, hT1⟩ : ∃ T, [103, 101, 110, 32] ++ Dge = T := ⟨_, rfl⟩
  obtain ⟨T2, hT2⟩ : ∃ T, T1 ++ DP = T := ⟨_, rfl⟩
  have hL1 : T1.length ≤ 200 := by rw [← hT1]; simp; omega
  have ha1 := saddT (P := Tryz.prog) hT1 (by omega)
  have hL2 : T2.length ≤ 40000 := by rw [← hT2]; simp; omega
  have ha2 := saddT (P := Tryz.prog) hT2 (by omega)
  rw [show str [103, 101, 110, 32] = { data := #[103, 101, 110, 32] } from rfl] at ha1
  have HA : Hid (askedW 7 off nx db ge ps ns = T2) := Lib.hid (by rw [← hT2, ← hT1, ← hDge, ← hDP]; rfl)
  clear hT hp hn hDge hlge hDP hlp hT1 hT2
  refine calls_wd ?_
  go_enter Tryz.func39, Tryz.ntmps39
  go_wp2
  obtain ⟨W1, hW1⟩ : ∃ W1, wd w [#[.cells #[.int .u8 k0, .int .i64 er, .int .i64 off, .int .i64 nx, .bool db, .int .i64 ge, bv, pv, nv] 46]] w.drawn = W1 := ⟨_, rfl⟩
  generalize hqr : sz w.heap.size [] = qr
  have HM1 : Hid (More w W1) := Lib.hid (hW1 ▸ more_wd _ _ _)
  have h1 : W1.heap[qr]? = some (.cells #[.int .u8 k0, .int .i64 er, .int .i64 off, .int .i64 nx, .bool db, .int .i64 ge, bv, pv, nv] 46 (0, 0)) := by rw [← hW1, ← hqr]; exact wd_at w [] _ _ _ _ rfl rfl
  have hlt := lt_of_blk h1
  have c2 : W1.cell? ⟨qr, 2, none⟩ = some (.int .i64 off) := by rw [Lib.cell_of_heap h1]; rfl
  have c3 : W1.cell? ⟨qr, 3, none⟩ = some (.int .i64 nx) := by rw [Lib.cell_of_heap h1]; rfl
  have c4 : W1.cell? ⟨qr, 4, none⟩ = some (.bool db) := by rw [Lib.cell_of_heap h1]; rfl
  have c5 : W1.cell? ⟨qr, 5, none⟩ = some (.int .i64 ge) := by rw [Lib.cell_of_heap h1]; rfl
  have c7 : W1.cell? ⟨qr, 7, none⟩ = some (pv) := by rw [Lib.cell_of_heap h1]; rfl
  have c8 : W1.cell? ⟨qr, 8, none⟩ = some (nv) := by rw [Lib.cell_of_heap h1]; rfl
  rw [hW1, ← wd_nil W1]
  clear hW1 hqr h1
  refine wp_region_chain (fun (m : Ext) => wd W1 [m.e] m.n) (⟨#[], W1.drawn + 1⟩) [([0, 1, 4, 5], 2), ([3], 6), ([7], 8)] [9] [([true, true, false, false, true, true], [false, false, true]), ([false, false, false, true], [false, false, false, false, false, false, true]), ([false, false, false, false, false, false, false, true], [false, false, false, false, false, false, false, false, true])] [false, false, false, false, false, false, false, false, false, true] rfl rfl ⟨rfl, rfl, rfl, rfl, rfl, rfl, trivial⟩ (by kernel_rfl) (by kernel_rfl) (fun _ _ d _ _ h => by cases d <;> exact h) ?_
  refine ⟨rfl, ?_⟩
  apply Exists.intro
  refine ⟨?_, ?_⟩
  · intro E
    simp only [sel_t, sel_f, sel_n]
    repeat (go_big_quiet_step ((fail)))
    exact wpQuiet_nil rfl
  simp only [sel_t, sel_f, sel_n]
  go_wp2_with (first | (go_at_call 14; ((with_reducible refine (HDge.out _).mono ?_); rintro e w1 ⟨rfl, x1, n1, rfl⟩)))
  refine ⟨cls_wd _ _ _, ?_⟩
  refine ⟨rfl, ?_⟩
  apply Exists.intro
  refine ⟨?_, ?_⟩
  · intro E
    simp only [sel_t, sel_f, sel_n]
    repeat (go_big_quiet_step ((fail)))
    exact wpQuiet_nil rfl
  try simp only [sel_t, sel_f, sel_n]
  go_wp2_with (first | (go_at_call 60; ((with_reducible refine (HP.out _ (HZ.out _ (HM1.out.trans (more_wd _ _ _)))).mono ?_); rintro e w1 ⟨rfl, x1, n1, rfl⟩)))
  refine ⟨cls_wd _ _ _, ?_⟩
  refine ⟨rfl, ?_⟩
  apply Exists.intro
  refine ⟨?_, ?_⟩
  · intro E
    simp only [sel_t, sel_f, sel_n]
    repeat (go_big_quiet_step ((fail)))
    exact wpQuiet_nil rfl
  try simp only [sel_t, sel_f, sel_n]
  go_wp2
  refine ⟨cls_wd _ _ _, ?_⟩
  refine ⟨rfl, ?_⟩
  apply Exists.intro
  refine ⟨?_, ?_⟩
  · intro E
    simp only [sel_t, sel_f, sel_n]
    repeat (go_big_quiet_step ((fail)))
    exact wpQuiet_nil rfl
  try simp only [sel_t, sel_f, sel_n]
  go_wp2
  go_ret
  rw [HA.out]
  exact lines_more HM1.out (lines_one (by omega))
set_option maxRecDepth 100000 in
set_option maxHeartbeats 3200000 in
theorem rasked3 (k0 er off nx : Int) (db : Bool) (ge : Int) (bv pv nv : Value) (ps : List Int) (ns : List Word) (w : World) (hp : ZRd w pv ps) (hn : SRd w nv ns) (hT : Told1 off nx ge ps ns) : Calls Tryz.prog 39 #[.int .u8 3, .agg #[.int .u8 k0, .int .i64 er, .int .i64 off, .int .i64 nx, .bool db, .int .i64 ge, bv, pv, nv]] w fun e w' => LinesRet w w' e [askedW 3 off nx db ge ps ns] := by
  have HT := Lib.hid hT
  have HDoff := Lib.hid (fun W => rdigI_any off (bd_of hT.off).1 (bd_of hT.off).2 W)
  have hloff := digI_len (bd_of hT.off)
  obtain ⟨Doff, hDoff⟩ : ∃ D, digI off = D := ⟨_, rfl⟩
  rw [hDoff] at HDoff hloff
  have HDnx := Lib.hid (fun W => rdigI_any nx (bd_of hT.nx).1 (bd_of hT.nx).2 W)
  have hlnx := digI_len (bd_of hT.nx)
  obtain ⟨Dnx, hDnx⟩ : ∃ D, digI nx = D := ⟨_, rfl⟩
  rw [hDnx] at HDnx hlnx
  obtain ⟨T1, hT1⟩ : ∃ T, [97, 116, 32] ++ Doff = T := ⟨_, rfl⟩
  obtain ⟨T2, hT2⟩ : ∃ T, T1 ++ [32, 110, 101, 120, 116, 32] = T := ⟨_, rfl⟩
  obtain ⟨T3, hT3⟩ : ∃ T, T2 ++ Dnx = T := ⟨_, rfl⟩
  obtain ⟨T4, hT4⟩ : ∃ T, T3 ++ [32, 100, 111, 117, 98, 108, 101] = T := ⟨_, rfl⟩
  have hL1 : T1.length ≤ 200 := by rw [← hT1]; simp; omega
  have ha1 := saddT (P := Tryz.prog) hT1 (by omega)
  have hL2 : T2.length ≤ 400 := by rw [← hT2]; simp; omega
  have ha2 := saddT (P := Tryz.prog) hT2 (by omega)
  have hL3 : T3.length ≤ 600 := by rw [← hT3]; simp; omega
  have ha3 := saddT (P := Tryz.prog) hT3 (by omega)
  have hL4 : T4.length ≤ 800 := by rw [← hT4]; simp; omega
  have ha4 := saddT (P := Tryz.prog) hT4 (by omega)
  rw [show str [97, 116, 32] = { data := #[97, 116, 32] } from rfl] at ha1
  rw [show str [32, 110, 101, 120, 116, 32] = { data := #[32, 110, 101, 120, 116, 32] } from rfl] at ha2
  rw [show str [32, 100, 111, 117, 98, 108, 101] = { data := #[32, 100, 111, 117, 98, 108, 101] } from rfl] at ha4
  have HAf : Hid (db = false → askedW 3 off nx db ge ps ns = T3) := Lib.hid (fun h => by rw [h, ← hT3, ← hT2, ← hT1, ← hDoff, ← hDnx]; rfl)
  have HAt : Hid (db = true → askedW 3 off nx db ge ps ns = T4) := Lib.hid (fun h => by rw [h, ← hT4, ← hT3, ← hT2, ← hT1, ← hDoff, ← hDnx]; rfl)
  clear hT hp hn hDoff hloff hDnx hlnx hT1 hT2 hT3 hT4
  refine calls_wd ?_
  go_enter Tryz.func39, Tryz.ntmps39
  go_wp2
  obtain ⟨W1, hW1⟩ : ∃ W1, wd w [#[.cells #[.int .u8 k0, .int .i64 er, .int .i64 off, .int .i64 nx, .bool db, .int .i64 ge, bv, pv, nv] 46]] w.drawn = W1 := ⟨_, rfl⟩
  generalize hqr : sz w.heap.size [] = qr
  have HM1 : Hid (More w W1) := Lib.hid (hW1 ▸ more_wd _ _ _)
  have h1 : W1.heap[qr]? = some (.cells #[.int .u8 k0, .int .i64 er, .int .i64 off, .int .i64 nx, .bool db, .int .i64 ge, bv, pv, nv] 46 (0, 0)) := by rw [← hW1, ← hqr]; exact wd_at w [] _ _ _ _ rfl rfl
  have hlt := lt_of_blk h1
  have c2 : W1.cell? ⟨qr, 2, none⟩ = some (.int .i64 off) := by rw [Lib.cell_of_heap h1]; rfl
  have c3 : W1.cell? ⟨qr, 3, none⟩ = some (.int .i64 nx) := by rw [Lib.cell_of_heap h1]; rfl
  have c4 : W1.cell? ⟨qr, 4, none⟩ = some (.bool db) := by rw [Lib.cell_of_heap h1]; rfl
  have c5 : W1.cell? ⟨qr, 5, none⟩ = some (.int .i64 ge) := by rw [Lib.cell_of_heap h1]; rfl
  have c7 : W1.cell? ⟨qr, 7, none⟩ = some (pv) := by rw [Lib.cell_of_heap h1]; rfl
  have c8 : W1.cell? ⟨qr, 8, none⟩ = some (nv) := by rw [Lib.cell_of_heap h1]; rfl
  rw [hW1, ← wd_nil W1]
  clear hW1 hqr h1
  refine wp_region_chain (fun (m : Ext) => wd W1 [m.e] m.n) (⟨#[], W1.drawn + 1⟩) [([0, 1, 5, 6], 2), ([3, 4], 7)] [8, 9] [([true, true, false, false, false, true, true], [false, false, true]), ([false, false, false, true, true], [false, false, false, false, false, false, false, true])] [false, false, false, false, false, false, false, false, true, true] rfl rfl ⟨rfl, rfl, rfl, rfl, trivial⟩ (by kernel_rfl) (by kernel_rfl) (fun _ _ d _ _ h => by cases d <;> exact h) ?_
  refine ⟨rfl, ?_⟩
  apply Exists.intro
  refine ⟨?_, ?_⟩
  · intro E
    simp only [sel_t, sel_f, sel_n]
    repeat (go_big_quiet_step ((fail)))
    exact wpQuiet_nil rfl
  simp only [sel_t, sel_f, sel_n]
  go_wp2_with (first | (go_at_call 14; ((with_reducible refine (HDoff.out _).mono ?_); rintro e w1 ⟨rfl, x1, n1, rfl⟩)))
  refine ⟨cls_wd _ _ _, ?_⟩
  refine ⟨rfl, ?_⟩
  apply Exists.intro
  refine ⟨?_, ?_⟩
  · intro E
    simp only [sel_t, sel_f, sel_n]
    repeat (go_big_quiet_step ((fail)))
    exact wpQuiet_nil rfl
  try simp only [sel_t, sel_f, sel_n]
  go_wp2_with (first | (go_at_call 14; ((with_reducible refine (HDnx.out _).mono ?_); rintro e w1 ⟨rfl, x1, n1, rfl⟩)))
  refine ⟨cls_wd _ _ _, ?_⟩
  refine ⟨rfl, ?_⟩
  apply Exists.intro
  refine ⟨?_, ?_⟩
  · intro E
    simp only [sel_t, sel_f, sel_n]
    repeat (go_big_quiet_step ((fail)))
    exact wpQuiet_nil rfl
  try simp only [sel_t, sel_f, sel_n]
  cases db
  · have HA := Lib.hid (HAf.out rfl)
    go_wp2
    go_ret
    rw [HA.out]
    exact lines_more HM1.out (lines_one (by omega))
  · have HA := Lib.hid (HAt.out rfl)
    go_wp2
    go_ret
    rw [HA.out]
    exact lines_more HM1.out (lines_one (by omega))
set_option maxRecDepth 100000 in
set_option maxHeartbeats 3200000 in
theorem rasked5 (k0 er off nx : Int) (db : Bool) (ge : Int) (bv pv nv : Value) (ps : List Int) (ns : List Word) (w : World) (hp : ZRd w pv ps) (hn : SRd w nv ns) (hT : Told1 off nx ge ps ns) : Calls Tryz.prog 39 #[.int .u8 5, .agg #[.int .u8 k0, .int .i64 er, .int .i64 off, .int .i64 nx, .bool db, .int .i64 ge, bv, pv, nv]] w fun e w' => LinesRet w w' e [askedW 5 off nx db ge ps ns] := by
  have HT := Lib.hid hT
  have HDoff := Lib.hid (fun W => rdigI_any off (bd_of hT.off).1 (bd_of hT.off).2 W)
  have hloff := digI_len (bd_of hT.off)
  obtain ⟨Doff, hDoff⟩ : ∃ D, digI off = D := ⟨_, rfl⟩
  rw [hDoff] at HDoff hloff
  obtain ⟨T1, hT1⟩ : ∃ T, [97, 116, 32] ++ Doff = T := ⟨_, rfl⟩
  have hL1 : T1.length ≤ 200 := by rw [← hT1]; simp; omega
  have ha1 := saddT (P := Tryz.prog) hT1 (by omega)
  rw [show str [97, 116, 32] = { data := #[97, 116, 32] } from rfl] at ha1
  have HAf : Hid (db = false → askedW 5 off nx db ge ps ns = [110, 111, 110, 101]) := Lib.hid (fun h => by rw [h]; rfl)
  have HAt : Hid (db = true → askedW 5 off nx db ge ps ns = T1) := Lib.hid (fun h => by rw [h, ← hT1, ← hDoff]; rfl)
  clear hT hp hn hDoff hloff hT1
  cases db
  · have HA := Lib.hid (HAf.out rfl)
    refine calls_wd ?_
    go_enter Tryz.func39, Tryz.ntmps39
    go_wp2_with (first | (go_at_call 14; ((with_reducible refine (HDoff.out _).mono ?_); rintro e w1 ⟨rfl, x1, n1, rfl⟩)))
    go_ret
    rw [HA.out]
    exact lines_one (by first | omega | decide)
  · have HA := Lib.hid (HAt.out rfl)
    refine calls_wd ?_
    go_enter Tryz.func39, Tryz.ntmps39
    go_wp2_with (first | (go_at_call 14; ((with_reducible refine (HDoff.out _).mono ?_); rintro e w1 ⟨rfl, x1, n1, rfl⟩)))
    go_ret
    rw [HA.out]
    exact lines_one (by first | omega | decide)
set_option maxRecDepth 100000 in
set_option maxHeartbeats 3200000 in
theorem rasked11 (k0 er off nx : Int) (db : Bool) (ge : Int) (bv pv nv : Value) (ps : List Int) (ns : List Word) (w : World) (hp : ZRd w pv ps) (hn : SRd w nv ns) (hT : Told1 off nx ge ps ns) : Calls Tryz.prog 39 #[.int .u8 11, .agg #[.int .u8 k0, .int .i64 er, .int .i64 off, .int .i64 nx, .bool db, .int .i64 ge, bv, pv, nv]] w fun e w' => LinesRet w w' e [askedW 11 off nx db ge ps ns] := by
  have HT := Lib.hid hT
  have HDoff := Lib.hid (fun W => rdigI_any off (bd_of hT.off).1 (bd_of hT.off).2 W)
  have hloff := digI_len (bd_of hT.off)
  obtain ⟨Doff, hDoff⟩ : ∃ D, digI off = D := ⟨_, rfl⟩
  rw [hDoff] at HDoff hloff
  obtain ⟨T1, hT1⟩ : ∃ T, [97, 116, 32] ++ Doff = T := ⟨_, rfl⟩
  have hL1 : T1.length ≤ 200 := by rw [← hT1]; simp; omega
  have ha1 := saddT (P := Tryz.prog) hT1 (by omega)
  rw [show str [97, 116, 32] = { data := #[97, 116, 32] } from rfl] at ha1
  have HAf : Hid (db = false → askedW 11 off nx db ge ps ns = [110, 111, 110, 101]) := Lib.hid (fun h => by rw [h]; rfl)
  have HAt : Hid (db = true → askedW 11 off nx db ge ps ns = T1) := Lib.hid (fun h => by rw [h, ← hT1, ← hDoff]; rfl)
  clear hT hp hn hDoff hloff hT1
  cases db
  · have HA := Lib.hid (HAf.out rfl)
    refine calls_wd ?_
    go_enter Tryz.func39, Tryz.ntmps39
    go_wp2_with (first | (go_at_call 14; ((with_reducible refine (HDoff.out _).mono ?_); rintro e w1 ⟨rfl, x1, n1, rfl⟩)))
    go_ret
    rw [HA.out]
    exact lines_one (by first | omega | decide)
  · have HA := Lib.hid (HAt.out rfl)
    refine calls_wd ?_
    go_enter Tryz.func39, Tryz.ntmps39
    go_wp2_with (first | (go_at_call 14; ((with_reducible refine (HDoff.out _).mono ?_); rintro e w1 ⟨rfl, x1, n1, rfl⟩)))
    go_ret
    rw [HA.out]
    exact lines_one (by first | omega | decide)
set_option maxRecDepth 100000 in
set_option maxHeartbeats 3200000 in
theorem rasked6 (k0 er off nx : Int) (db : Bool) (ge : Int) (bv pv nv : Value) (ps : List Int) (ns : List Word) (w : World) (hp : ZRd w pv ps) (hn : SRd w nv ns) (hT : Told1 off nx ge ps ns) : Calls Tryz.prog 39 #[.int .u8 6, .agg #[.int .u8 k0, .int .i64 er, .int .i64 off, .int .i64 nx, .bool db, .int .i64 ge, bv, pv, nv]] w fun e w' => LinesRet w w' e [askedW 6 off nx db ge ps ns] := by
  have HT := Lib.hid hT
  have HDge := Lib.hid (fun W => rdigI_any ge (bd_of hT.ge).1 (bd_of hT.ge).2 W)
  have hlge := digI_len (bd_of hT.ge)
  obtain ⟨Dge, hDge⟩ : ∃ D, digI ge = D := ⟨_, rfl⟩
  rw [hDge] at HDge hlge
  have HN := Lib.hid (fun W (hm : More w W) => hn.more hm)
  obtain ⟨T1, hT1⟩ : ∃ T, [103, 101, 110, 32] ++ Dge = T := ⟨_, rfl⟩
  have hL1 : T1.length ≤ 200 := by rw [← hT1]; simp; omega
  have ha1 := saddT (P := Tryz.prog) hT1 (by omega)
  rw [show str [103, 101, 110, 32] = { data := #[103, 101, 110, 32] } from rfl] at ha1
  have hnn := hT.nn
  have HNS := Lib.hid hT.ns
  have HA : Hid (askedW 6 off nx db ge ps ns = T1 ++ namesW ns) := Lib.hid (by rw [← hT1, ← hDge]; rfl)
  obtain ⟨an, cn, rfl, hc1, hc2, -⟩ := hn.out
  obtain ⟨N, hN⟩ : ∃ N, ns.length = N := ⟨_, rfl⟩
  rw [hN] at hnn hc1 HN ⊢
  have HNN := Lib.hid hN
  clear hT hp hn hDge hlge hT1 hN
  refine calls_wd ?_
  go_enter Tryz.func39, Tryz.ntmps39
  go_wp2_with (first | (go_at_call 14; ((with_reducible refine (HDge.out _).mono ?_); rintro e w1 ⟨rfl, x1, n1, rfl⟩)))
  obtain ⟨W1, hW1⟩ : ∃ W1, wd w [x1, #[.cells #[.int .u8 k0, .int .i64 er, .int .i64 off, .int .i64 nx, .bool db, .int .i64 ge, bv, pv, .slice an N cn] 46]] n1 = W1 := ⟨_, rfl⟩
  generalize hqr : sz w.heap.size [] = qr
  have HM1 : Hid (More w W1) := Lib.hid (hW1 ▸ more_wd _ _ _)
  have h1 : W1.heap[qr]? = some (.cells #[.int .u8 k0, .int .i64 er, .int .i64 off, .int .i64 nx, .bool db, .int .i64 ge, bv, pv, .slice an N cn] 46 (0, 0)) := by rw [← hW1, ← hqr, wd_past w _ _ _ _ _ rfl (by simp [shape_cons, shape_nil, inn_cons])]; exact wd_at w [] _ _ _ _ rfl rfl
  have hlt := lt_of_blk h1
  have c8 : W1.cell? ⟨qr, 8, none⟩ = some (.slice an N cn) := by rw [Lib.cell_of_heap h1]; rfl
  rw [hW1, ← wd_nil W1]
  clear hW1 hqr h1
  go_loopw [6, 7] (fun s6 s7 wr => ∃ (k : Nat) (m : Ext) (S : Word), k ≤ N ∧ s7 = .int .i64 k ∧ s6 = .string (str S) ∧ Hid (S = T1 ++ namesW (ns.take k)) ∧ S.length ≤ 200 + 401 * k ∧ wr = wd W1 [m.e] m.n) (fun _ s7 _ => N - (intOf s7).toNat)
  case atStart => exact ⟨0, ⟨#[], _⟩, T1, Nat.zero_le _, rfl, rfl, Lib.hid (by simp [namesW]), by omega, (wd_empty _ _ _).symm⟩
  case round =>
    obtain ⟨k, m, S, hkN, rfl, rfl, HS, hSl, rfl⟩ := hrel
    by_cases hk : k < N
    · obtain ⟨x, hx⟩ : ∃ x, ns[k]? = some x := ⟨_, List.getElem?_eq_getElem (by rw [HNN.out]; exact hk)⟩
      have hxl := HNS.out x (List.mem_of_getElem? hx)
      have HX := Lib.hid (flat_takeT (fun s : Word => 32 :: s) hx)
      obtain ⟨a9, c9, h90, h91, h92, h93⟩ := (HN.out _ HM1.out).out
      rw [HNN.out] at h90
      cases h90
      obtain ⟨b9, o9, rfl, hb9, hc9⟩ := h93 (fun h => by rw [h] at hx; cases hx)
      have hcell := hc9 k x hx
      obtain ⟨Ta, hTa⟩ : ∃ T, S ++ [32] = T := ⟨_, rfl⟩
      obtain ⟨Tb, hTb⟩ : ∃ T, Ta ++ x = T := ⟨_, rfl⟩
      have hTal : Ta.length ≤ 33000 := by rw [← hTa]; simp; omega
      have hTbl : Tb.length ≤ 200 + 401 * (k + 1) := by rw [← hTb, ← hTa]; simp; omega
      have hb1 := saddT (P := Tryz.prog) hTa (by omega)
      have hb2 := saddT (P := Tryz.prog) hTb (by omega)
      rw [show str [32] = { data := #[32] } from rfl] at hb1
      have HTB : Hid (Tb = T1 ++ namesW (ns.take (k + 1))) := Lib.hid (by rw [← hTb, ← hTa, HS.out]; unfold namesW; rw [HX.out]; simp)
      clear h91 h92 h93 hc9 hx hxl hTa hTb
      go_wp2
      go_roundw
      case rel => exact ⟨k + 1, m, Tb, by omega, by go_num, rfl, HTB, by omega, rfl⟩
      case measure => simp [intOf]; omega
    · obtain rfl : k = N := by omega
      have HA2 : Hid (askedW 6 off nx db ge ps ns = S) := Lib.hid (by rw [HA.out, HS.out, List.take_of_length_le (by rw [HNN.out]; exact Nat.le_refl _)])
      go_wp2
      go_ret
      rw [HA2.out]
      exact lines_more HM1.out (lines_one (by omega))
set_option maxRecDepth 100000 in
set_option maxHeartbeats 3200000 in
theorem rasked9 (k0 er off nx : Int) (db : Bool) (ge : Int) (bv pv nv : Value) (ps : List Int) (ns : List Word) (w : World) (hp : ZRd w pv ps) (hn : SRd w nv ns) (hT : Told1 off nx ge ps ns) : Calls Tryz.prog 39 #[.int .u8 9, .agg #[.int .u8 k0, .int .i64 er, .int .i64 off, .int .i64 nx, .bool db, .int .i64 ge, bv, pv, nv]] w fun e w' => LinesRet w w' e [askedW 9 off nx db ge ps ns] := by
  have HT := Lib.hid hT
  have HDge := Lib.hid (fun W => rdigI_any ge (bd_of hT.ge).1 (bd_of hT.ge).2 W)
  have hlge := digI_len (bd_of hT.ge)
  obtain ⟨Dge, hDge⟩ : ∃ D, digI ge = D := ⟨_, rfl⟩
  rw [hDge] at HDge hlge
  have HN := Lib.hid (fun W (hm : More w W) => hn.more hm)
  obtain ⟨T1, hT1⟩ : ∃ T, [103, 101, 110, 32] ++ Dge = T := ⟨_, rfl⟩
  have hL1 : T1.length ≤ 200 := by rw [← hT1]; simp; omega
  have ha1 := saddT (P := Tryz.prog) hT1 (by omega)
  rw [show str [103, 101, 110, 32] = { data := #[103, 101, 110, 32] } from rfl] at ha1
  have hnn := hT.nn
  have HNS := Lib.hid hT.ns
  have HA : Hid (askedW 9 off nx db ge ps ns = T1 ++ namesW ns) := Lib.hid (by rw [← hT1, ← hDge]; rfl)
  obtain ⟨an, cn, rfl, hc1, hc2, -⟩ := hn.out
  obtain ⟨N, hN⟩ : ∃ N, ns.length = N := ⟨_, rfl⟩
  rw [hN] at hnn hc1 HN ⊢
  have HNN := Lib.hid hN
  clear hT hp hn hDge hlge hT1 hN
  refine calls_wd ?_
  go_enter Tryz.func39, Tryz.ntmps39
  go_wp2_with (first | (go_at_call 14; ((with_reducible refine (HDge.out _).mono ?_); rintro e w1 ⟨rfl, x1, n1, rfl⟩)))
  obtain ⟨W1, hW1⟩ : ∃ W1, wd w [x1, #[.cells #[.int .u8 k0, .int .i64 er, .int .i64 off, .int .i64 nx, .bool db, .int .i64 ge, bv, pv, .slice an N cn] 46]] n1 = W1 := ⟨_, rfl⟩
  generalize hqr : sz w.heap.size [] = qr
  have HM1 : Hid (More w W1) := Lib.hid (hW1 ▸ more_wd _ _ _)
  have h1 : W1.heap[qr]? = some (.cells #[.int .u8 k0, .int .i64 er, .int .i64 off, .int .i64 nx, .bool db, .int .i64 ge, bv, pv, .slice an N cn] 46 (0, 0)) := by rw [← hW1, ← hqr, wd_past w _ _ _ _ _ rfl (by simp [shape_cons, shape_nil, inn_cons])]; exact wd_at w [] _ _ _ _ rfl rfl
  have hlt := lt_of_blk h1
  have c8 : W1.cell? ⟨qr, 8, none⟩ = some (.slice an N cn) := by rw [Lib.cell_of_heap h1]; rfl
  rw [hW1, ← wd_nil W1]
  clear hW1 hqr h1
  go_loopw [6, 7] (fun s6 s7 wr => ∃ (k : Nat) (m : Ext) (S : Word), k ≤ N ∧ s7 = .int .i64 k ∧ s6 = .string (str S) ∧ Hid (S = T1 ++ namesW (ns.take k)) ∧ S.length ≤ 200 + 401 * k ∧ wr = wd W1 [m.e] m.n) (fun _ s7 _ => N - (intOf s7).toNat)
  case atStart => exact ⟨0, ⟨#[], _⟩, T1, Nat.zero_le _, rfl, rfl, Lib.hid (by simp [namesW]), by omega, (wd_empty _ _ _).symm⟩
  case round =>
    obtain ⟨k, m, S, hkN, rfl, rfl, HS, hSl, rfl⟩ := hrel
    by_cases hk : k < N
    · obtain ⟨x, hx⟩ : ∃ x, ns[k]? = some x := ⟨_, List.getElem?_eq_getElem (by rw [HNN.out]; exact hk)⟩
      have hxl := HNS.out x (List.mem_of_getElem? hx)
      have HX := Lib.hid (flat_takeT (fun s : Word => 32 :: s) hx)
      obtain ⟨a9, c9, h90, h91, h92, h93⟩ := (HN.out _ HM1.out).out
      rw [HNN.out] at h90
      cases h90
      obtain ⟨b9, o9, rfl, hb9, hc9⟩ := h93 (fun h => by rw [h] at hx; cases hx)
      have hcell := hc9 k x hx
      obtain ⟨Ta, hTa⟩ : ∃ T, S ++ [32] = T := ⟨_, rfl⟩
      obtain ⟨Tb, hTb⟩ : ∃ T, Ta ++ x = T := ⟨_, rfl⟩
      have hTal : Ta.length ≤ 33000 := by rw [← hTa]; simp; omega
      have hTbl : Tb.length ≤ 200 + 401 * (k + 1) := by rw [← hTb, ← hTa]; simp; omega
      have hb1 := saddT (P := Tryz.prog) hTa (by omega)
      have hb2 := saddT (P := Tryz.prog) hTb (by omega)
      rw [show str [32] = { data := #[32] } from rfl] at hb1
      have HTB : Hid (Tb = T1 ++ namesW (ns.take (k + 1))) := Lib.hid (by rw [← hTb, ← hTa, HS.out]; unfold namesW; rw [HX.out]; simp)
      clear h91 h92 h93 hc9 hx hxl hTa hTb
      go_wp2
      go_roundw
      case rel => exact ⟨k + 1, m, Tb, by omega, by go_num, rfl, HTB, by omega, rfl⟩
      case measure => simp [intOf]; omega
    · obtain rfl : k = N := by omega
      have HA2 : Hid (askedW 9 off nx db ge ps ns = S) := Lib.hid (by rw [HA.out, HS.out, List.take_of_length_le (by rw [HNN.out]; exact Nat.le_refl _)])
      go_wp2
      go_ret
      rw [HA2.out]
      exact lines_more HM1.out (lines_one (by omega))
set_option maxRecDepth 100000 in
set_option maxHeartbeats 3200000 in
theorem rasked_other (k : Nat) (hk : k ≠ 0 ∧ k ≠ 2 ∧ k ≠ 3 ∧ k ≠ 5 ∧ k ≠ 11 ∧ k ≠ 6 ∧ k ≠ 9 ∧ k ≠ 7 ∧ k ≠ 8 ∧ k ≠ 4) (k0 er off nx : Int) (db : Bool) (ge : Int) (bv pv nv : Value) (ps : List Int) (ns : List Word) (w : World) (hp : ZRd w pv ps) (hn : SRd w nv ns) (hT : Told1 off nx ge ps ns) : Calls Tryz.prog 39 #[.int .u8 k, .agg #[.int .u8 k0, .int .i64 er, .int .i64 off, .int .i64 nx, .bool db, .int .i64 ge, bv, pv, nv]] w fun e w' => LinesRet w w' e [askedW k off nx db ge ps ns] := by
  obtain ⟨n0, n2, n3, n5, n11, n6, n9, n7, n8, n4⟩ := hk
  have q0 : ((k : Int) == 0) = false := by rw [beq_eq_false_iff_ne]; omega
  have q2 : ((k : Int) == 2) = false := by rw [beq_eq_false_iff_ne]; omega
  have q3 : ((k : Int) == 3) = false := by rw [beq_eq_false_iff_ne]; omega
  have q5 : ((k : Int) == 5) = false := by rw [beq_eq_false_iff_ne]; omega
  have q11 : ((k : Int) == 11) = false := by rw [beq_eq_false_iff_ne]; omega
  have q6 : ((k : Int) == 6) = false := by rw [beq_eq_false_iff_ne]; omega
  have q9 : ((k : Int) == 9) = false := by rw [beq_eq_false_iff_ne]; omega
  have q7 : ((k : Int) == 7) = false := by rw [beq_eq_false_iff_ne]; omega
  have q8 : ((k : Int) == 8) = false := by rw [beq_eq_false_iff_ne]; omega
  have q4 : ((k : Int) == 4) = false := by rw [beq_eq_false_iff_ne]; omega
  have HA : Hid (askedW k off nx db ge ps ns = [111, 107]) := Lib.hid (by unfold askedW; simp [n0, n2, n3, n5, n11, n6, n9, n7, n8, n4])
  clear hT hp hn n0 n2 n3 n5 n11 n6 n9 n7 n8 n4
  refine calls_wd ?_
  go_enter Tryz.func39, Tryz.ntmps39
  go_wp2
  go_ret
  rw [HA.out]
  exact lines_one (by first | omega | decide)
end Go.Proofs.YtifoekadjnlhcaaGreatDoor
