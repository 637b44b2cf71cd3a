/- console: asked (printed by gen/ctg.py). -/
import Derived.Test.YtifoekadjnlhcaaGreatDoorQC
import Derived.Test.YtifoekadjnlhcaaGreatDoorQB
namespace Go.Proofs.YtifoekadjnlhcaaGreatDoor
open Go.ChangeShapes Go.WideShapes Go.ChangeAt Go.RowKit
set_option linter.unusedVariables false
set_option linter.unusedSimpArgs false
structure Told1 (off nx ge : Int) (ps : List Int) (ns : List Word) : Prop where
  off : In61 off
  nx : In61 nx
  ge : In61 ge
  np : ps.length ≤ 80
  ps : ∀ n ∈ ps, Bd n
  nn : ns.length ≤ 80
  ns : ∀ s ∈ ns, s.length ≤ 400
theorem bd_of {n : Int} (h : In61 n) : Bd n := by
  obtain ⟨h1, h2⟩ := h
  exact ⟨by omega, by omega⟩
set_option maxRecDepth 100000 in
set_option maxHeartbeats 3200000 in
theorem casked0 (k0 er off nx : Int) (db : Bool) (ge : Int) (bv pv nv : Value) (ps : List Int) (ns : List Word) (w : World) (hp : ZRd w pv ps) (hn : SRd w nv ns) (hT : Told1 off nx ge ps ns) : Calls Tryz.prog 38 #[.int .u8 0, .agg #[.int .u8 k0, .int .i64 er, .int .i64 off, .int .i64 nx, .bool db, .int .i64 ge, bv, pv, nv]] w fun e w' => e = .returned (.string (str (askedW 0 off nx db ge ps ns))) ∧ More w w' := by
  have HT := Lib.hid hT
  have HDoff := Lib.hid (fun W => cdig_any off (bd_of hT.off).1 (bd_of hT.off).2 W)
  have hloff := digI_len (bd_of hT.off)
  obtain ⟨Doff, hDoff⟩ : ∃ D, digI off = D := ⟨_, rfl⟩
  rw [hDoff] at HDoff hloff
  obtain ⟨T1, hT1⟩ : ∃ T, [116, 111, 112, 105, 99, 32] ++ Doff = T := ⟨_, rfl⟩
  have hL1 : T1.length ≤ 200 := by rw [← hT1]; simp; omega
  have ha1 := saddT (P := Tryz.prog) hT1 (by omega)
  rw [show str [116, 111, 112, 105, 99, 32] = { data := #[116, 111, 112, 105, 99, 32] } from rfl] at ha1
  have HA : Hid (askedW 0 off nx db ge ps ns = T1) := Lib.hid (by rw [← hT1, ← hDoff]; rfl)
  clear hT hp hn hDoff hloff hT1
  refine calls_wd ?_
  go_enter Tryz.func38, Tryz.ntmps38
  go_wp2_with (first | (go_at_call 13; ((with_reducible refine (HDoff.out _).mono ?_); rintro e w1 ⟨rfl, x1, n1, rfl⟩)))
  go_ret
  rw [HA.out]
  exact ⟨rfl, more_wd _ _ _⟩
set_option maxRecDepth 100000 in
set_option maxHeartbeats 3200000 in
theorem casked8 (k0 er off nx : Int) (db : Bool) (ge : Int) (bv pv nv : Value) (ps : List Int) (ns : List Word) (w : World) (hp : ZRd w pv ps) (hn : SRd w nv ns) (hT : Told1 off nx ge ps ns) : Calls Tryz.prog 38 #[.int .u8 8, .agg #[.int .u8 k0, .int .i64 er, .int .i64 off, .int .i64 nx, .bool db, .int .i64 ge, bv, pv, nv]] w fun e w' => e = .returned (.string (str (askedW 8 off nx db ge ps ns))) ∧ More w w' := by
  have HT := Lib.hid hT
  have HDge := Lib.hid (fun W => cdig_any ge (bd_of hT.ge).1 (bd_of hT.ge).2 W)
  have hlge := digI_len (bd_of hT.ge)
  obtain ⟨Dge, hDge⟩ : ∃ D, digI ge = D := ⟨_, rfl⟩
  rw [hDge] at HDge hlge
  obtain ⟨T1, hT1⟩ : ∃ T, [103, 101, 110, 32] ++ Dge = T := ⟨_, rfl⟩
  have hL1 : T1.length ≤ 200 := by rw [← hT1]; simp; omega
  have ha1 := saddT (P := Tryz.prog) hT1 (by omega)
  rw [show str [103, 101, 110, 32] = { data := #[103, 101, 110, 32] } from rfl] at ha1
  have HA : Hid (askedW 8 off nx db ge ps ns = T1) := Lib.hid (by rw [← hT1, ← hDge]; rfl)
  clear hT hp hn hDge hlge hT1
  refine calls_wd ?_
  go_enter Tryz.func38, Tryz.ntmps38
  go_wp2_with (first | (go_at_call 13; ((with_reducible refine (HDge.out _).mono ?_); rintro e w1 ⟨rfl, x1, n1, rfl⟩)))
  go_ret
  rw [HA.out]
  exact ⟨rfl, more_wd _ _ _⟩
set_option maxRecDepth 100000 in
set_option maxHeartbeats 3200000 in
theorem casked2 (k0 er off nx : Int) (db : Bool) (ge : Int) (bv pv nv : Value) (ps : List Int) (ns : List Word) (w : World) (hp : ZRd w pv ps) (hn : SRd w nv ns) (hT : Told1 off nx ge ps ns) : Calls Tryz.prog 38 #[.int .u8 2, .agg #[.int .u8 k0, .int .i64 er, .int .i64 off, .int .i64 nx, .bool db, .int .i64 ge, bv, pv, nv]] w fun e w' => e = .returned (.string (str (askedW 2 off nx db ge ps ns))) ∧ More w w' := by
  have HT := Lib.hid hT
  have HDoff := Lib.hid (fun W => cdig_any off (bd_of hT.off).1 (bd_of hT.off).2 W)
  have hloff := digI_len (bd_of hT.off)
  obtain ⟨Doff, hDoff⟩ : ∃ D, digI off = D := ⟨_, rfl⟩
  rw [hDoff] at HDoff hloff
  have HDnx := Lib.hid (fun W => cdig_any nx (bd_of hT.nx).1 (bd_of hT.nx).2 W)
  have hlnx := digI_len (bd_of hT.nx)
  obtain ⟨Dnx, hDnx⟩ : ∃ D, digI nx = D := ⟨_, rfl⟩
  rw [hDnx] at HDnx hlnx
  have HP := Lib.hid (fun W g => cnums_any ps pv W g hT.np hT.ps)
  have HZ := Lib.hid (fun W (hm : More w W) => hp.more hm)
  have hlp := numsW_len hT.ps
  have hnp := hT.np
  obtain ⟨DP, hDP⟩ : ∃ D, numsW ps = D := ⟨_, rfl⟩
  rw [hDP] at HP hlp
  obtain ⟨T1, hT1⟩ : ∃ T, [116, 111, 112, 105, 99, 32] ++ Doff = T := ⟨_, rfl⟩
  obtain ⟨T2, hT2⟩ : ∃ T, T1 ++ [32] = T := ⟨_, rfl⟩
  obtain ⟨T3, hT3⟩ : ∃ T, T2 ++ Dnx = T := ⟨_, rfl⟩
  obtain ⟨T4, hT4⟩ : ∃ T, T3 ++ DP = T := ⟨_, rfl⟩
  have hL1 : T1.length ≤ 200 := by rw [← hT1]; simp; omega
  have ha1 := saddT (P := Tryz.prog) hT1 (by omega)
  have hL2 : T2.length ≤ 400 := by rw [← hT2]; simp; omega
  have ha2 := saddT (P := Tryz.prog) hT2 (by omega)
  have hL3 : T3.length ≤ 600 := by rw [← hT3]; simp; omega
  have ha3 := saddT (P := Tryz.prog) hT3 (by omega)
  have hL4 : T4.length ≤ 40000 := by rw [← hT4]; simp; omega
  have ha4 := saddT (P := Tryz.prog) hT4 (by omega)
  rw [show str [116, 111, 112, 105, 99, 32] = { data := #[116, 111, 112, 105, 99, 32] } from rfl] at ha1
  rw [show str [32] = { data := #[32] } from rfl] at ha2
  have HA : Hid (askedW 2 off nx db ge ps ns = T4) := Lib.hid (by rw [← hT4, ← hT3, ← hT2, ← hT1, ← hDoff, ← hDnx, ← hDP]; rfl)
  clear hT hp hn hDoff hloff hDnx hlnx hDP hlp hT1 hT2 hT3 hT4
  refine calls_wd ?_
  go_enter Tryz.func38, Tryz.ntmps38
  go_wp2
  obtain ⟨W1, hW1⟩ : ∃ W1, wd w [#[.cells #[.int .u8 k0, .int .i64 er, .int .i64 off, .int .i64 nx, .bool db, .int .i64 ge, bv, pv, nv] 46]] w.drawn = W1 := ⟨_, rfl⟩
  generalize hqr : sz w.heap.size [] = qr
  have HM1 : Hid (More w W1) := Lib.hid (hW1 ▸ more_wd _ _ _)
  have h1 : W1.heap[qr]? = some (.cells #[.int .u8 k0, .int .i64 er, .int .i64 off, .int .i64 nx, .bool db, .int .i64 ge, bv, pv, nv] 46 (0, 0)) := by rw [← hW1, ← hqr]; exact wd_at w [] _ _ _ _ rfl rfl
  have hlt := lt_of_blk h1
  have c2 : W1.cell? ⟨qr, 2, none⟩ = some (.int .i64 off) := by rw [Lib.cell_of_heap h1]; rfl
  have c3 : W1.cell? ⟨qr, 3, none⟩ = some (.int .i64 nx) := by rw [Lib.cell_of_heap h1]; rfl
  have c4 : W1.cell? ⟨qr, 4, none⟩ = some (.bool db) := by rw [Lib.cell_of_heap h1]; rfl
  have c5 : W1.cell? ⟨qr, 5, none⟩ = some (.int .i64 ge) := by rw [Lib.cell_of_heap h1]; rfl
  have c7 : W1.cell? ⟨qr, 7, none⟩ = some (pv) := by rw [Lib.cell_of_heap h1]; rfl
  have c8 : W1.cell? ⟨qr, 8, none⟩ = some (nv) := by rw [Lib.cell_of_heap h1]; rfl
  rw [hW1, ← wd_nil W1]
  clear hW1 hqr h1
  refine wp_region_chain (fun (m : Ext) => wd W1 [m.e] m.n) (⟨#[], W1.drawn + 1⟩) [([0, 1, 5, 6, 9, 10], 2), ([3, 4], 7), ([8], 11)] [12, 13] [([true, true, false, false, false, true, true, false, false, true, true], [false, false, true]), ([false, false, false, true, true], [false, false, false, false, false, false, false, true]), ([false, false, false, false, false, false, false, false, true], [false, false, false, false, false, false, false, false, false, false, false, true])] [false, false, false, false, false, false, false, false, false, false, false, false, true, true] rfl rfl ⟨rfl, rfl, rfl, rfl, rfl, rfl, trivial⟩ (by kernel_rfl) (by kernel_rfl) (fun _ _ d _ _ h => by cases d <;> exact h) ?_
  refine ⟨rfl, ?_⟩
  apply Exists.intro
  refine ⟨?_, ?_⟩
  · intro E
    simp only [sel_t, sel_f, sel_n]
    repeat (go_big_quiet_step ((fail)))
    exact wpQuiet_nil rfl
  simp only [sel_t, sel_f, sel_n]
  go_wp2_with (first | (go_at_call 13; ((with_reducible refine (HDoff.out _).mono ?_); rintro e w1 ⟨rfl, x1, n1, rfl⟩)))
  refine ⟨cls_wd _ _ _, ?_⟩
  refine ⟨rfl, ?_⟩
  apply Exists.intro
  refine ⟨?_, ?_⟩
  · intro E
    simp only [sel_t, sel_f, sel_n]
    repeat (go_big_quiet_step ((fail)))
    exact wpQuiet_nil rfl
  try simp only [sel_t, sel_f, sel_n]
  go_wp2_with (first | (go_at_call 13; ((with_reducible refine (HDnx.out _).mono ?_); rintro e w1 ⟨rfl, x1, n1, rfl⟩)))
  refine ⟨cls_wd _ _ _, ?_⟩
  refine ⟨rfl, ?_⟩
  apply Exists.intro
  refine ⟨?_, ?_⟩
  · intro E
    simp only [sel_t, sel_f, sel_n]
    repeat (go_big_quiet_step ((fail)))
    exact wpQuiet_nil rfl
  try simp only [sel_t, sel_f, sel_n]
  go_wp2_with (first | (go_at_call 58; ((with_reducible refine (HP.out _ (HZ.out _ (HM1.out.trans (more_wd _ _ _)))).mono ?_); rintro e w1 ⟨rfl, x1, n1, rfl⟩)))
  refine ⟨cls_wd _ _ _, ?_⟩
  refine ⟨rfl, ?_⟩
  apply Exists.intro
  refine ⟨?_, ?_⟩
  · intro E
    simp only [sel_t, sel_f, sel_n]
    repeat (go_big_quiet_step ((fail)))
    exact wpQuiet_nil rfl
  try simp only [sel_t, sel_f, sel_n]
  go_wp2
  go_ret
  rw [HA.out]
  exact ⟨rfl, HM1.out.trans (by first | exact more_wd _ _ _ | exact ⟨_, _, rfl⟩)⟩
set_option maxRecDepth 100000 in
set_option maxHeartbeats 3200000 in
theorem casked7 (k0 er off nx : Int) (db : Bool) (ge : Int) (bv pv nv : Value) (ps : List Int) (ns : List Word) (w : World) (hp : ZRd w pv ps) (hn : SRd w nv ns) (hT : Told1 off nx ge ps ns) : Calls Tryz.prog 38 #[.int .u8 7, .agg #[.int .u8 k0, .int .i64 er, .int .i64 off, .int .i64 nx, .bool db, .int .i64 ge, bv, pv, nv]] w fun e w' => e = .returned (.string (str (askedW 7 off nx db ge ps ns))) ∧ More w w' := by
  have HT := Lib.hid hT
  have HDge := Lib.hid (fun W => cdig_any ge (bd_of hT.ge).1 (bd_of hT.ge).2 W)
  have hlge := digI_len (bd_of hT.ge)
  obtain ⟨Dge, hDge⟩ : ∃ D, digI ge = D := ⟨_, rfl⟩
  rw [hDge] at HDge hlge
  have HP := Lib.hid (fun W g => cnums_any ps pv W g hT.np hT.ps)
  have HZ := Lib.hid (fun W (hm : More w W) => hp.more hm)
  have hlp := numsW_len hT.ps
  have hnp := hT.np
  obtain ⟨DP, hDP⟩ : ∃ D, numsW ps = D := ⟨_, rfl⟩
  rw [hDP] at HP hlp
  obtain ⟨T1, hT1⟩ : ∃ T, [103, 101, 110, 32] ++ Dge = T := ⟨_, rfl⟩
  obtain ⟨T2, hT2⟩ : ∃ T, T1 ++ DP = T := ⟨_, rfl⟩
  have hL1 : T1.length ≤ 200 := by rw [← hT1]; simp; omega
  have ha1 := saddT (P := Tryz.prog) hT1 (by omega)
  have hL2 : T2.length ≤ 40000 := by rw [← hT2]; simp; omega
  have ha2 := saddT (P := Tryz.prog) hT2 (by omega)
  rw [show str [103, 101, 110, 32] = { data := #[103, 101, 110, 32] } from rfl] at ha1
  have HA : Hid (askedW 7 off nx db ge ps ns = T2) := Lib.hid (by rw [← hT2, ← hT1, ← hDge, ← hDP]; rfl)
  clear hT hp hn hDge hlge hDP hlp hT1 hT2
  refine calls_wd ?_
  go_enter Tryz.func38, Tryz.ntmps38
  go_wp2
  obtain ⟨W1, hW1⟩ : ∃ W1, wd w [#[.cells #[.int .u8 k0, .int .i64 er, .int .i64 off, .int .i64 nx, .bool db, .int .i64 ge, bv, pv, nv] 46]] w.drawn = W1 := ⟨_, rfl⟩
  generalize hqr : sz w.heap.size [] = qr
  have HM1 : Hid (More w W1) := Lib.hid (hW1 ▸ more_wd _ _ _)
  have h1 : W1.heap[qr]? = some (.cells #[.int .u8 k0, .int .i64 er, .int .i64 off, .int .i64 nx, .bool db, .int .i64 ge, bv, pv, nv] 46 (0, 0)) := by rw [← hW1, ← hqr]; exact wd_at w [] _ _ _ _ rfl rfl
  have hlt := lt_of_blk h1
  have c2 : W1.cell? ⟨qr, 2, none⟩ = some (.int .i64 off) := by rw [Lib.cell_of_heap h1]; rfl
  have c3 : W1.cell? ⟨qr, 3, none⟩ = some (.int .i64 nx) := by rw [Lib.cell_of_heap h1]; rfl
  have c4 : W1.cell? ⟨qr, 4, none⟩ = some (.bool db) := by rw [Lib.cell_of_heap h1]; rfl
  have c5 : W1.cell? ⟨qr, 5, none⟩ = some (.int .i64 ge) := by rw [Lib.cell_of_heap h1]; rfl
  have c7 : W1.cell? ⟨qr, 7, none⟩ = some (pv) := by rw [Lib.cell_of_heap h1]; rfl
  have c8 : W1.cell? ⟨qr, 8, none⟩ = some (nv) := by rw [Lib.cell_of_heap h1]; rfl
  rw [hW1, ← wd_nil W1]
  clear hW1 hqr h1
  refine wp_region_chain (fun (m : Ext) => wd W1 [m.e] m.n) (⟨#[], W1.drawn + 1⟩) [([0, 1, 4, 5], 2), ([3], 6)] [7, 8] [([true, true, false, false, true, true], [false, false, true]), ([false, false, false, true], [false, false, false, false, false, false, true])] [false, false, false, false, false, false, false, true, true] rfl rfl ⟨rfl, rfl, rfl, rfl, trivial⟩ (by kernel_rfl) (by kernel_rfl) (fun _ _ d _ _ h => by cases d <;> exact h) ?_
  refine ⟨rfl, ?_⟩
  apply Exists.intro
  refine ⟨?_, ?_⟩
  · intro E
    simp only [sel_t, sel_f, sel_n]
    repeat (go_big_quiet_step ((fail)))
    exact wpQuiet_nil rfl
  simp only [sel_t, sel_f, sel_n]
  go_wp2_with (first | (go_at_call 13; ((with_reducible refine (HDge.out _).mono ?_); rintro e w1 ⟨rfl, x1, n1, rfl⟩)))
  refine ⟨cls_wd _ _ _, ?_⟩
  refine ⟨rfl, ?_⟩
  apply Exists.intro
  refine ⟨?_, ?_⟩
  · intro E
    simp only [sel_t, sel_f, sel_n]
    repeat (go_big_quiet_step ((fail)))
    exact wpQuiet_nil rfl
  try simp only [sel_t, sel_f, sel_n]
  go_wp2_with (first | (go_at_call 58; ((with_reducible refine (HP.out _ (HZ.out _ (HM1.out.trans (more_wd _ _ _)))).mono ?_); rintro e w1 ⟨rfl, x1, n1, rfl⟩)))
  refine ⟨cls_wd _ _ _, ?_⟩
  refine ⟨rfl, ?_⟩
  apply Exists.intro
  refine ⟨?_, ?_⟩
  · intro E
    simp only [sel_t, sel_f, sel_n]
    repeat (go_big_quiet_step ((fail)))
    exact wpQuiet_nil rfl
  try simp only [sel_t, sel_f, sel_n]
  go_wp2
  go_ret
  rw [HA.out]
  exact ⟨rfl, HM1.out.trans (by first | exact more_wd _ _ _ | exact ⟨_, _, rfl⟩)⟩
set_option maxRecDepth 100000 in
set_option maxHeartbeats 3200000 in
theorem casked3 (k0 er off nx : Int) (db : Bool) (ge : Int) (bv pv nv : Value) (ps : List Int) (ns : List Word) (w : World) (hp : ZRd w pv ps) (hn : SRd w nv ns) (hT : Told1 off nx ge ps ns) : Calls Tryz.prog 38 #[.int .u8 3, .agg #[.int .u8 k0, .int .i64 er, .int .i64 off, .int .i64 nx, .bool db, .int .i64 ge, bv, pv, nv]] w fun e w' => e = .returned (.string (str (askedW 3 off nx db ge ps ns))) ∧ More w w' := by
  have HT := Lib.hid hT
  have HDoff := Lib.hid (fun W => cdig_any off (bd_of hT.off).1 (bd_of hT.off).2 W)
  have hloff := digI_len (bd_of hT.off)
  obtain ⟨Doff, hDoff⟩ : ∃ D, digI off = D := ⟨_, rfl⟩
  rw [hDoff] at HDoff hloff
  have HDnx := Lib.hid (fun W => cdig_any nx (bd_of hT.nx).1 (bd_of hT.nx).2 W)
  have hlnx := digI_len (bd_of hT.nx)
  obtain ⟨Dnx, hDnx⟩ : ∃ D, digI nx = D := ⟨_, rfl⟩
  rw [hDnx] at HDnx hlnx
  obtain ⟨T1, hT1⟩ : ∃ T, [97, 116, 32] ++ Doff = T := ⟨_, rfl⟩
  obtain ⟨T2, hT2⟩ : ∃ T, T1 ++ [32, 110, 101, 120, 116, 32] = T := ⟨_, rfl⟩
  obtain ⟨T3, hT3⟩ : ∃ T, T2 ++ Dnx = T := ⟨_, rfl⟩
  obtain ⟨T4, hT4⟩ : ∃ T, T3 ++ [32, 100, 111, 117, 98, 108, 101] = T := ⟨_, rfl⟩
  have hL1 : T1.length ≤ 200 := by rw [← hT1]; simp; omega
  have ha1 := saddT (P := Tryz.prog) hT1 (by omega)
  have hL2 : T2.length ≤ 400 := by rw [← hT2]; simp; omega
  have ha2 := saddT (P := Tryz.prog) hT2 (by omega)
  have hL3 : T3.length ≤ 600 := by rw [← hT3]; simp; omega
  have ha3 := saddT (P := Tryz.prog) hT3 (by omega)
  have hL4 : T4.length ≤ 800 := by rw [← hT4]; simp; omega
  have ha4 := saddT (P := Tryz.prog) hT4 (by omega)
  rw [show str [97, 116, 32] = { data := #[97, 116, 32] } from rfl] at ha1
  rw [show str [32, 110, 101, 120, 116, 32] = { data := #[32, 110, 101, 120, 116, 32] } from rfl] at ha2
  rw [show str [32, 100, 111, 117, 98, 108, 101] = { data := #[32, 100, 111, 117, 98, 108, 101] } from rfl] at ha4
  have HAf : Hid (db = false → askedW 3 off nx db ge ps ns = T3) := Lib.hid (fun h => by rw [h, ← hT3, ← hT2, ← hT1, ← hDoff, ← hDnx]; rfl)
  have HAt : Hid (db = true → askedW 3 off nx db ge ps ns = T4) := Lib.hid (fun h => by rw [h, ← hT4, ← hT3, ← hT2, ← hT1, ← hDoff, ← hDnx]; rfl)
  clear hT hp hn hDoff hloff hDnx hlnx hT1 hT2 hT3 hT4
  refine calls_wd ?_
  go_enter Tryz.func38, Tryz.ntmps38
  go_wp2
  obtain ⟨W1, hW1⟩ : ∃ W1, wd w [#[.cells #[.int .u8 k0, .int .i64 er, .int .i64 off, .int .i64 nx, .bool db, .int .i64 ge, bv, pv, nv] 46]] w.drawn = W1 := ⟨_, rfl⟩
  generalize hqr : sz w.heap.size [] = qr
  have HM1 : Hid (More w W1) := Lib.hid (hW1 ▸ more_wd _ _ _)
  have h1 : W1.heap[qr]? = some (.cells #[.int .u8 k0, .int .i64 er, .int .i64 off, .int .i64 nx, .bool db, .int .i64 ge, bv, pv, nv] 46 (0, 0)) := by rw [← hW1, ← hqr]; exact wd_at w [] _ _ _ _ rfl rfl
  have hlt := lt_of_blk h1
  have c2 : W1.cell? ⟨qr, 2, none⟩ = some (.int .i64 off) := by rw [Lib.cell_of_heap h1]; rfl
  have c3 : W1.cell? ⟨qr, 3, none⟩ = some (.int .i64 nx) := by rw [Lib.cell_of_heap h1]; rfl
  have c4 : W1.cell? ⟨qr, 4, none⟩ = some (.bool db) := by rw [Lib.cell_of_heap h1]; rfl
  have c5 : W1.cell? ⟨qr, 5, none⟩ = some (.int .i64 ge) := by rw [Lib.cell_of_heap h1]; rfl
  have c7 : W1.cell? ⟨qr, 7, none⟩ = some (pv) := by rw [Lib.cell_of_heap h1]; rfl
  have c8 : W1.cell? ⟨qr, 8, none⟩ = some (nv) := by rw [Lib.cell_of_heap h1]; rfl
  rw [hW1, ← wd_nil W1]
  clear hW1 hqr h1
  refine wp_region_chain (fun (m : Ext) => wd W1 [m.e] m.n) (⟨#[], W1.drawn + 1⟩) [([0, 1, 5, 6], 2), ([3, 4], 7)] [8, 9] [([true, true, false, false, false, true, true], [false, false, true]), ([false, false, false, true, true], [false, false, false, false, false, false, false, true])] [false, false, false, false, false, false, false, false, true, true] rfl rfl ⟨rfl, rfl, rfl, rfl, trivial⟩ (by kernel_rfl) (by kernel_rfl) (fun _ _ d _ _ h => by cases d <;> exact h) ?_
  refine ⟨rfl, ?_⟩
  apply Exists.intro
  refine ⟨?_, ?_⟩
  · intro E
    simp only [sel_t, sel_f, sel_n]
    repeat (go_big_quiet_step ((fail)))
    exact wpQuiet_nil rfl
  simp only [sel_t, sel_f, sel_n]
  go_wp2_with (first | (go_at_call 13; ((with_reducible refine (HDoff.out _).mono ?_); rintro e w1 ⟨rfl, x1, n1, rfl⟩)))
  refine ⟨cls_wd _ _ _, ?_⟩
  refine ⟨rfl, ?_⟩
  apply Exists.intro
  refine ⟨?_, ?_⟩
  · intro E
    simp only [sel_t, sel_f, sel_n]
    repeat (go_big_quiet_step ((fail)))
    exact wpQuiet_nil rfl
  try simp only [sel_t, sel_f, sel_n]
  go_wp2_with (first | (go_at_call 13; ((with_reducible refine (HDnx.out _).mono ?_); rintro e w1 ⟨rfl, x1, n1, rfl⟩)))
  refine ⟨cls_wd _ _ _, ?_⟩
  refine ⟨rfl, ?_⟩
  apply Exists.intro
  refine ⟨?_, ?_⟩
  · intro E
    simp only [sel_t, sel_f, sel_n]
    repeat (go_big_quiet_step ((fail)))
    exact wpQuiet_nil rfl
  try simp only [sel_t, sel_f, sel_n]
  cases db
  · have HA := Lib.hid (HAf.out rfl)
    go_wp2
    go_ret
    rw [HA.out]
    exact ⟨rfl, HM1.out.trans (by first | exact more_wd _ _ _ | exact ⟨_, _, rfl⟩)⟩
  · have HA := Lib.hid (HAt.out rfl)
    go_wp2
    go_ret
    rw [HA.out]
    exact ⟨rfl, HM1.out.trans (by first | exact more_wd _ _ _ | exact ⟨_, _, rfl⟩)⟩
set_option maxRecDepth 100000 in
set_option maxHeartbeats 3200000 in
theorem casked5 (k0 er off nx : Int) (db : Bool) (ge : Int) (bv pv nv : Value) (ps : List Int) (ns : List Word) (w : World) (hp : ZRd w pv ps) (hn : SRd w nv ns) (hT : Told1 off nx ge ps ns) : Calls Tryz.prog 38 #[.int .u8 5, .agg #[.int .u8 k0, .int .i64 er, .int .i64 off, .int .i64 nx, .bool db, .int .i64 ge, bv, pv, nv]] w fun e w' => e = .returned (.string (str (askedW 5 off nx db ge ps ns))) ∧ More w w' := by
  have HT := Lib.hid hT
  have HDoff := Lib.hid (fun W => cdig_any off (bd_of hT.off).1 (bd_of hT.off).2 W)
  have hloff := digI_len (bd_of hT.off)
  obtain ⟨Doff, hDoff⟩ : ∃ D, digI off = D := ⟨_, rfl⟩
  rw [hDoff] at HDoff hloff
  obtain ⟨T1, hT1⟩ : ∃ T, [97, 116, 32] ++ Doff = T := ⟨_, rfl⟩
  have hL1 : T1.length ≤ 200 := by rw [← hT1]; simp; omega
  have ha1 := saddT (P := Tryz.prog) hT1 (by omega)
  rw [show str [97, 116, 32] = { data := #[97, 116, 32] } from rfl] at ha1
  have HAf : Hid (db = false → askedW 5 off nx db ge ps ns = [110, 111, 110, 101]) := Lib.hid (fun h => by rw [h]; rfl)
  have HAt : Hid (db = true → askedW 5 off nx db ge ps ns = T1) := Lib.hid (fun h => by rw [h, ← hT1, ← hDoff]; rfl)
  clear hT hp hn hDoff hloff hT1
  cases db
  · have HA := Lib.hid (HAf.out rfl)
    refine calls_wd ?_
    go_enter Tryz.func38, Tryz.ntmps38
    go_wp2_with (first | (go_at_call 13; ((with_reducible refine (HDoff.out _).mono ?_); rintro e w1 ⟨rfl, x1, n1, rfl⟩)))
    go_ret
    rw [HA.out]
    exact ⟨rfl, more_wd _ _ _⟩
  · have HA := Lib.hid (HAt.out rfl)
    refine calls_wd ?_
    go_enter Tryz.func38, Tryz.ntmps38
    go_wp2_with (first | (go_at_call 13; ((with_reducible refine (HDoff.out _).mono ?_); rintro e w1 ⟨rfl, x1, n1, rfl⟩)))
    go_ret
    rw [HA.out]
    exact ⟨rfl, more_wd _ _ _⟩
set_option maxRecDepth 100000 in
set_option maxHeartbeats 3200000 in
theorem casked11 (k0 er off nx : Int) (db : Bool) (ge : Int) (bv pv nv : Value) (ps : List Int) (ns : List Word) (w : World) (hp : ZRd w pv ps) (hn : SRd w nv ns) (hT : Told1 off nx ge ps ns) : Calls Tryz.prog 38 #[.int .u8 11, .agg #[.int .u8 k0, .int .i64 er, .int .i64 off, .int .i64 nx, .bool db, .int .i64 ge, bv, pv, nv]] w fun e w' => e = .returned (.string (str (askedW 11 off nx db ge ps ns))) ∧ More w w' := by
  have HT := Lib.hid hT
  have HDoff := Lib.hid (fun W => cdig_any off (bd_of hT.off).1 (bd_of hT.off).2 W)
  have hloff := digI_len (bd_of hT.off)
  obtain ⟨Doff, hDoff⟩ : ∃ D, digI off = D := ⟨_, rfl⟩
  rw [hDoff] at HDoff hloff
  obtain ⟨T1, hT1⟩ : ∃ T, [97, 116, 32] ++ Doff = T := ⟨_, rfl⟩
  have hL1 : T1.length ≤ 200 := by rw [← hT1]; simp; omega
  have ha1 := saddT (P := Tryz.prog) hT1 (by omega)
  rw [show str [97, 116, 32] = { data := #[97, 116, 32] } from rfl] at ha1
  have HAf : Hid (db = false → askedW 11 off nx db ge ps ns = [110, 111, 110, 101]) := Lib.hid (fun h => by rw [h]; rfl)
  have HAt : Hid (db = true → askedW 11 off nx db ge ps ns = T1) := Lib.hid (fun h => by rw [h, ← hT1, ← hDoff]; rfl)
  clear hT hp hn hDoff hloff hT1
  cases db
  · have HA := Lib.hid (HAf.out rfl)
    refine calls_wd ?_
    go_enter Tryz.func38, Tryz.ntmps38
    go_wp2_with (first | (go_at_call 13; ((with_reducible refine (HDoff.out _).mono ?_); rintro e w1 ⟨rfl, x1, n1, rfl⟩)))
    go_ret
    rw [HA.out]
    exact ⟨rfl, more_wd _ _ _⟩
  · have HA := Lib.hid (HAt.out rfl)
    refine calls_wd ?_
    go_enter Tryz.func38, Tryz.ntmps38
    go_wp2_with (first | (go_at_call 13; ((with_reducible refine (HDoff.out _).mono ?_); rintro e w1 ⟨rfl, x1, n1, rfl⟩)))
    go_ret
    rw [HA.out]
    exact ⟨rfl, more_wd _ _ _⟩
set_option maxRecDepth 100000 in
set_option maxHeartbeats 3200000 in
theorem casked6 (k0 er off nx : Int) (db : Bool) (ge : Int) (bv pv nv : Value) (ps : List Int) (ns : List Word) (w : World) (hp : ZRd w pv ps) (hn : SRd w nv ns) (hT : Told1 off nx ge ps ns) : Calls Tryz.prog 38 #[.int .u8 6, .agg #[.int .u8 k0, .int .i64 er, .int .i64 off, .int .i64 nx, .bool db, .int .i64 ge, bv, pv, nv]] w fun e w' => e = .returned (.string (str (askedW 6 off nx db ge ps ns))) ∧ More w w' := by
  have HT := Lib.hid hT
  have HDge := Lib.hid (fun W => cdig_any ge (bd_of hT.ge).1 (bd_of hT.ge).2 W)
  have hlge := digI_len (bd_of hT.ge)
  obtain ⟨Dge, hDge⟩ : ∃ D, digI ge = D := ⟨_, rfl⟩
  rw [hDge] at HDge hlge
  have HN := Lib.hid (fun W (hm : More w W) => hn.more hm)
  obtain ⟨i0, hi, hz0, hz1, hz2⟩ := info_parts info_str3
  have hnn := hT.nn
  obtain ⟨T, hTT⟩ : ∃ T, [103, 101, 110] ++ [32] ++ Dge ++ namesW ns = T := ⟨_, rfl⟩
  have HA : Hid (askedW 6 off nx db ge ps ns = T) := Lib.hid (by rw [← hTT, ← hDge]; rfl)
  have HJ : Hid (∀ (W u : World) (v : Value), u.ownsRow W.heap.size 9 1 v (2 + ns.length) ([[103, 101, 110], Dge].map sCell ++ ns.map sCell) → v ≠ .slice none 0 0 → More W u → Calls Tryz.prog 59 #[v, .string ⟨#[32]⟩] u fun e w' => e = .returned (.string (str T)) ∧ More W w') := Lib.hid (fun W u v ho hv hm => by rw [← hTT]; exact join_row ho hv hnn (by simp) hlge hT.ns hm)
  clear hT hp hn hDge hlge hTT
  refine calls_wd ?_
  go_enter Tryz.func38, Tryz.ntmps38
  go_wp2
  obtain ⟨W1, hW1⟩ : ∃ W1, wd w [#[.cells #[.int .u8 k0, .int .i64 er, .int .i64 off, .int .i64 nx, .bool db, .int .i64 ge, bv, pv, nv] 46]] w.drawn = W1 := ⟨_, rfl⟩
  generalize hqr : sz w.heap.size [] = qr
  have HM1 : Hid (More w W1) := Lib.hid (hW1 ▸ more_wd _ _ _)
  have h1 : W1.heap[qr]? = some (.cells #[.int .u8 k0, .int .i64 er, .int .i64 off, .int .i64 nx, .bool db, .int .i64 ge, bv, pv, nv] 46 (0, 0)) := by rw [← hW1, ← hqr]; exact wd_at w [] _ _ _ _ rfl rfl
  have hlt := lt_of_blk h1
  have H1 := Lib.hid h1
  obtain ⟨RS, hRS⟩ : ∃ RS : Array Value, RS = #[.int .u8 k0, .int .i64 er, .int .i64 off, .int .i64 nx, .bool db, .int .i64 ge, bv, pv, nv] := ⟨_, rfl⟩
  rw [← hRS] at H1
  have f5 : ∀ s : RW qr RS, s.u.cell? ⟨qr, 5, none⟩ = some (.int .i64 ge) := fun s => by rw [Lib.cell_of_heap s.h, hRS]; rfl
  have f8 : ∀ s : RW qr RS, s.u.cell? ⟨qr, 8, none⟩ = some nv := fun s => by rw [Lib.cell_of_heap s.h, hRS]; rfl
  rw [hW1, ← wd_nil W1]
  clear hW1 hqr h1 hRS
  refine wp_region_chain (fun (s : RW qr RS) => s.u) (⟨wd W1 [] (W1.drawn + 1), blk_more H1.out (more_wd _ _ _)⟩) [([0, 1, 4, 5], 2), ([], 3), ([], 6), ([], 7)] [8] [([true, true, false, false, true, true], [false, false, true]), ([], [false, false, false, true]), ([], [false, false, false, false, false, false, true]), ([], [false, false, false, false, false, false, false, true])] [false, false, false, false, false, false, false, false, true] rfl rfl ⟨rfl, rfl, rfl, rfl, rfl, rfl, rfl, rfl, trivial⟩ (by kernel_rfl) (by kernel_rfl) (fun _ _ d _ _ h => by cases d <;> exact h) ?_
  refine ⟨rfl, ?_⟩
  apply Exists.intro
  refine ⟨?_, ?_⟩
  · intro E
    simp only [sel_t, sel_f, sel_n]
    repeat (go_big_quiet_step ((fail)))
    exact wpQuiet_nil rfl
  simp only [sel_t, sel_f, sel_n]
  go_wp2_with (first | (go_at_call 13; ((with_reducible refine (HDge.out _).mono ?_); rintro e w1 ⟨rfl, x1, n1, rfl⟩)))
  refine ⟨⟨⟨_, blk_more H1.out (more_wd _ _ _)⟩, rfl⟩, ?_⟩
  refine ⟨rfl, ?_⟩
  apply Exists.intro
  refine ⟨?_, ?_⟩
  · intro E
    simp only [sel_t, sel_f, sel_n]
    repeat (go_big_quiet_step ((fail)))
    exact wpQuiet_nil rfl
  try simp only [sel_t, sel_f, sel_n]
  go_wp2
  refine ⟨⟨⟨_, blk_more H1.out (more_wd _ _ _)⟩, rfl⟩, ?_⟩
  refine ⟨rfl, ?_⟩
  apply Exists.intro
  refine ⟨?_, ?_⟩
  · intro E
    simp only [sel_t, sel_f, sel_n]
    repeat (go_big_quiet_step ((fail)))
    exact wpQuiet_nil rfl
  try simp only [sel_t, sel_f, sel_n]
  go_wp2_with (first | (at_builtin; refine wp_append_words rfl _ _ rfl i0 hi hz0 hz1 hz2 [103, 101, 110] Dge rfl nv ns rfl (HN.out W1 HM1.out) hnn ?_; intro v7 u7 ho7 hv7 hm7; have HO7 := Lib.hid (HJ.out W1 u7 v7 ho7 hv7 hm7); have HM7 := Lib.hid hm7; clear ho7 hv7 hm7))
  refine ⟨⟨⟨u7, blk_more H1.out HM7.out⟩, wd_nil u7⟩, ?_⟩
  refine ⟨rfl, ?_⟩
  apply Exists.intro
  refine ⟨?_, ?_⟩
  · intro E
    simp only [sel_t, sel_f, sel_n]
    repeat (go_big_quiet_step ((fail)))
    exact wpQuiet_nil rfl
  try simp only [sel_t, sel_f, sel_n]
  rw [wd_nil u7]
  go_wp2_with (first | (go_at_call 59; refine HO7.out.mono ?_; rintro e w9 ⟨rfl, x9, n9, rfl⟩))
  refine ⟨⟨⟨_, blk_more H1.out ⟨x9, n9, rfl⟩⟩, rfl⟩, ?_⟩
  refine ⟨rfl, ?_⟩
  apply Exists.intro
  refine ⟨?_, ?_⟩
  · intro E
    simp only [sel_t, sel_f, sel_n]
    repeat (go_big_quiet_step ((fail)))
    exact wpQuiet_nil rfl
  try simp only [sel_t, sel_f, sel_n]
  go_wp2
  go_ret
  rw [HA.out]
  exact ⟨rfl, HM1.out.trans (by first | exact more_wd _ _ _ | exact ⟨_, _, rfl⟩)⟩
set_option maxRecDepth 100000 in
set_option maxHeartbeats 3200000 in
theorem casked9 (k0 er off nx : Int) (db : Bool) (ge : Int) (bv pv nv : Value) (ps : List Int) (ns : List Word) (w : World) (hp : ZRd w pv ps) (hn : SRd w nv ns) (hT : Told1 off nx ge ps ns) : Calls Tryz.prog 38 #[.int .u8 9, .agg #[.int .u8 k0, .int .i64 er, .int .i64 off, .int .i64 nx, .bool db, .int .i64 ge, bv, pv, nv]] w fun e w' => e = .returned (.string (str (askedW 9 off nx db ge ps ns))) ∧ More w w' := by
  have HT := Lib.hid hT
  have HDge := Lib.hid (fun W => cdig_any ge (bd_of hT.ge).1 (bd_of hT.ge).2 W)
  have hlge := digI_len (bd_of hT.ge)
  obtain ⟨Dge, hDge⟩ : ∃ D, digI ge = D := ⟨_, rfl⟩
  rw [hDge] at HDge hlge
  have HN := Lib.hid (fun W (hm : More w W) => hn.more hm)
  obtain ⟨i0, hi, hz0, hz1, hz2⟩ := info_parts info_str3
  have hnn := hT.nn
  obtain ⟨T, hTT⟩ : ∃ T, [103, 101, 110] ++ [32] ++ Dge ++ namesW ns = T := ⟨_, rfl⟩
  have HA : Hid (askedW 9 off nx db ge ps ns = T) := Lib.hid (by rw [← hTT, ← hDge]; rfl)
  have HJ : Hid (∀ (W u : World) (v : Value), u.ownsRow W.heap.size 9 1 v (2 + ns.length) ([[103, 101, 110], Dge].map sCell ++ ns.map sCell) → v ≠ .slice none 0 0 → More W u → Calls Tryz.prog 59 #[v, .string ⟨#[32]⟩] u fun e w' => e = .returned (.string (str T)) ∧ More W w') := Lib.hid (fun W u v ho hv hm => by rw [← hTT]; exact join_row ho hv hnn (by simp) hlge hT.ns hm)
  clear hT hp hn hDge hlge hTT
  refine calls_wd ?_
  go_enter Tryz.func38, Tryz.ntmps38
  go_wp2
  obtain ⟨W1, hW1⟩ : ∃ W1, wd w [#[.cells #[.int .u8 k0, .int .i64 er, .int .i64 off, .int .i64 nx, .bool db, .int .i64 ge, bv, pv, nv] 46]] w.drawn = W1 := ⟨_, rfl⟩
  generalize hqr : sz w.heap.size [] = qr
  have HM1 : Hid (More w W1) := Lib.hid (hW1 ▸ more_wd _ _ _)
  have h1 : W1.heap[qr]? = some (.cells #[.int .u8 k0, .int .i64 er, .int .i64 off, .int .i64 nx, .bool db, .int .i64 ge, bv, pv, nv] 46 (0, 0)) := by rw [← hW1, ← hqr]; exact wd_at w [] _ _ _ _ rfl rfl
  have hlt := lt_of_blk h1
  have H1 := Lib.hid h1
  obtain ⟨RS, hRS⟩ : ∃ RS : Array Value, RS = #[.int .u8 k0, .int .i64 er, .int .i64 off, .int .i64 nx, .bool db, .int .i64 ge, bv, pv, nv] := ⟨_, rfl⟩
  rw [← hRS] at H1
  have f5 : ∀ s : RW qr RS, s.u.cell? ⟨qr, 5, none⟩ = some (.int .i64 ge) := fun s => by rw [Lib.cell_of_heap s.h, hRS]; rfl
  have f8 : ∀ s : RW qr RS, s.u.cell? ⟨qr, 8, none⟩ = some nv := fun s => by rw [Lib.cell_of_heap s.h, hRS]; rfl
  rw [hW1, ← wd_nil W1]
  clear hW1 hqr h1 hRS
  refine wp_region_chain (fun (s : RW qr RS) => s.u) (⟨wd W1 [] (W1.drawn + 1), blk_more H1.out (more_wd _ _ _)⟩) [([0, 1, 4, 5], 2), ([], 3), ([], 6), ([], 7)] [8] [([true, true, false, false, true, true], [false, false, true]), ([], [false, false, false, true]), ([], [false, false, false, false, false, false, true]), ([], [false, false, false, false, false, false, false, true])] [false, false, false, false, false, false, false, false, true] rfl rfl ⟨rfl, rfl, rfl, rfl, rfl, rfl, rfl, rfl, trivial⟩ (by kernel_rfl) (by kernel_rfl) (fun _ _ d _ _ h => by cases d <;> exact h) ?_
  refine ⟨rfl, ?_⟩
  apply Exists.intro
  refine ⟨?_, ?_⟩
  · intro E
    simp only [sel_t, sel_f, sel_n]
    repeat (go_big_quiet_step ((fail)))
    exact wpQuiet_nil rfl
  simp only [sel_t, sel_f, sel_n]
  go_wp2_with (first | (go_at_call 13; ((with_reducible refine (HDge.out _).mono ?_); rintro e w1 ⟨rfl, x1, n1, rfl⟩)))
  refine ⟨⟨⟨_, blk_more H1.out (more_wd _ _ _)⟩, rfl⟩, ?_⟩
  refine ⟨rfl, ?_⟩
  apply Exists.intro
  refine ⟨?_, ?_⟩
  · intro E
    simp only [sel_t, sel_f, sel_n]
    repeat (go_big_quiet_step ((fail)))
    exact wpQuiet_nil rfl
  try simp only [sel_t, sel_f, sel_n]
  go_wp2
  refine ⟨⟨⟨_, blk_more H1.out (more_wd _ _ _)⟩, rfl⟩, ?_⟩
  refine ⟨rfl, ?_⟩
  apply Exists.intro
  refine ⟨?_, ?_⟩
  · intro E
    simp only [sel_t, sel_f, sel_n]
    repeat (go_big_quiet_step ((fail)))
    exact wpQuiet_nil rfl
  try simp only [sel_t, sel_f, sel_n]
  go_wp2_with (first | (at_builtin; refine wp_append_words rfl _ _ rfl i0 hi hz0 hz1 hz2 [103, 101, 110] Dge rfl nv ns rfl (HN.out W1 HM1.out) hnn ?_; intro v7 u7 ho7 hv7 hm7; have HO7 := Lib.hid (HJ.out W1 u7 v7 ho7 hv7 hm7); have HM7 := Lib.hid hm7; clear ho7 hv7 hm7))
  refine ⟨⟨⟨u7, blk_more H1.out HM7.out⟩, wd_nil u7⟩, ?_⟩
  refine ⟨rfl, ?_⟩
  apply Exists.intro
  refine ⟨?_, ?_⟩
  · intro E
    simp only [sel_t, sel_f, sel_n]
    repeat (go_big_quiet_step ((fail)))
    exact wpQuiet_nil rfl
  try simp only [sel_t, sel_f, sel_n]
  rw [wd_nil u7]
  go_wp2_with (first | (go_at_call 59; refine HO7.out.mono ?_; rintro e w9 ⟨rfl, x9, n9, rfl⟩))
  refine ⟨⟨⟨_, blk_more H1.out ⟨x9, n9, rfl⟩⟩, rfl⟩, ?_⟩
  refine ⟨rfl, ?_⟩
  apply Exists.intro
  refine ⟨?_, ?_⟩
  · intro E
    simp only [sel_t, sel_f, sel_n]
    repeat (go_big_quiet_step ((fail)))
    exact wpQuiet_nil rfl
  try simp only [sel_t, sel_f, sel_n]
  go_wp2
  go_ret
  rw [HA.out]
  exact ⟨rfl, HM1.out.trans (by first | exact more_wd _ _ _ | exact ⟨_, _, rfl⟩)⟩
set_option maxRecDepth 100000 in
set_option maxHeartbeats 3200000 in
theorem casked_other (k : Nat) (hk : k ≠ 0 ∧ k ≠ 2 ∧ k ≠ 3 ∧ k ≠ 5 ∧ k ≠ 11 ∧ k ≠ 6 ∧ k ≠ 9 ∧ k ≠ 7 ∧ k ≠ 8) (k0 er off nx : Int) (db : Bool) (ge : Int) (bv pv nv : Value) (ps : List Int) (ns : List Word) (w : World) (hp : ZRd w pv ps) (hn : SRd w nv ns) (hT : Told1 off nx ge ps ns) : Calls Tryz.prog 38 #[.int .u8 k, .agg #[.int .u8 k0, .int .i64 er, .int .i64 off, .int .i64 nx, .bool db, .int .i64 ge, bv, pv, nv]] w fun e w' => e = .returned (.string (str (askedW k off nx db ge ps ns))) ∧ More w w' := by
  obtain ⟨n0, n2, n3, n5, n11, n6, n9, n7, n8⟩ := hk
  have q0 : ((k : Int) == 0) = false := by rw [beq_eq_false_iff_ne]; omega
  have q2 : ((k : Int) == 2) = false := by rw [beq_eq_false_iff_ne]; omega
  have q3 : ((k : Int) == 3) = false := by rw [beq_eq_false_iff_ne]; omega
  have q5 : ((k : Int) == 5) = false := by rw [beq_eq_false_iff_ne]; omega
  have q11 : ((k : Int) == 11) = false := by rw [beq_eq_false_iff_ne]; omega
  have q6 : ((k : Int) == 6) = false := by rw [beq_eq_false_iff_ne]; omega
  have q9 : ((k : Int) == 9) = false := by rw [beq_eq_false_iff_ne]; omega
  have q7 : ((k : Int) == 7) = false := by rw [beq_eq_false_iff_ne]; omega
  have q8 : ((k : Int) == 8) = false := by rw [beq_eq_false_iff_ne]; omega
  have HA : Hid (askedW k off nx db ge ps ns = [111, 107]) := Lib.hid (by unfold askedW; simp [n0, n2, n3, n5, n11, n6, n9, n7, n8])
  clear hT hp hn n0 n2 n3 n5 n11 n6 n9 n7 n8
  refine calls_wd ?_
  go_enter Tryz.func38, Tryz.ntmps38
  go_wp2
  go_ret
  rw [HA.out]
  exact ⟨rfl, more_wd _ _ _⟩
end Go.Proofs.YtifoekadjnlhcaaGreatDoor
