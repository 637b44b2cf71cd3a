/- ViewPuts: the walk. -/
import Derived.Test.YtlanghikmccmbaaVL
import Derived.Test.YtlanghikmccmbaaVJ
import Derived.Test.YtlanghikmccmbaaVS
namespace Go.Proofs.Ytlanghikmccmbaa
open Go.ChangeShapes Go.WideShapes Go.ChangeAt Go.RowKit
set_option linter.unusedVariables false
set_option linter.unusedSimpArgs false
theorem bret_rb {w w' : World} {x : Ending} {l : List UInt8} {e : Int} (h : BRet w w' x l e) : ∃ v, x = .returned (.tuple #[v, .int .i64 e]) ∧ RB w' v l ∧ More w w' := by
  obtain ⟨v, hx, hm⟩ := h.out
  refine ⟨v, hx, ?_, hm.more⟩
  obtain ⟨m, rfl, hr⟩ := hm.out
  exact RB.of_row (L := []) (k := m.n) hr _ rfl
theorem viewGet_len (l : List UInt8) : (viewGet l).1.rows.length ≤ 4097 := by
  unfold viewGet
  split
  · show (rdRows _ _ _).length ≤ _
    rw [rdRows_len]; unfold vN; omega
  · exact Nat.zero_le _
/-- A view of these numbers. -/
structure VwIs (w w' : World) (x : Ending) (nx : Int) (N : Nat) (rows : List VRow) : Prop where
  out : ∃ a c, x = .returned (.agg #[.int .i64 nx, .slice a N c]) ∧ VRowsAt w' a rows ∧ More w w'
theorem vwis_of {w w' : World} {x : Ending} {v : Vw} {nx : Int} {N : Nat} (h1 : v.next = nx) (h2 : v.rows.length = N) (h : VwOne w w' x v) : VwIs w w' x nx N v.rows := by
  subst h1 h2
  exact ⟨h.out⟩
structure VwTo (w w' : World) (x : Ending) (nx : Int) (N : Nat) (rows : List VRow) (e : Int) : Prop where
  out : ∃ a c, x = .returned (.tuple #[.agg #[.int .i64 nx, .slice a N c], .int .i64 e]) ∧ VRowsAt w' a rows ∧ More w w'
theorem vwto_of {w w' : World} {x : Ending} {g : Vw × Int} {nx e : Int} {N : Nat} {rows : List VRow} (h1 : g.1.next = nx) (h2 : g.1.rows.length = N) (h3 : g.1.rows = rows) (h4 : g.2 = e) (h : VwRet w w' x g) : VwTo w w' x nx N rows e := by
  subst h1 h2 h3 h4
  obtain ⟨a, c, h5, h6, h7, _⟩ := h.out
  exact ⟨a, c, h5, h6, h7⟩
structure BTo (w w' : World) (x : Ending) (l : List UInt8) (e : Int) : Prop where
  out : ∃ v, x = .returned (.tuple #[v, .int .i64 e]) ∧ RB w' v l ∧ More w w'
set_option maxRecDepth 100000 in
set_option maxHeartbeats 8000000 in
theorem puts_any (v : Vw) (a : Option Addr) (cap : Nat) (bv : Value) (l : List UInt8) (w : World) (hr : VRowsAt w a v.rows) (hf : ∀ x ∈ v.rows, x.key.length ≤ maxLen ∧ x.value.length ≤ maxLen) (hl : v.rows.length ≤ maxLen) (hb : RB w bv l) :
    Calls Try.prog 4 #[.agg #[.int .i64 v.next, .slice a v.rows.length cap], bv] w fun e w' => e = .returned (.bool true) ∧ More w w' := by
  have HAW := Lib.hid awake36
  have HLI := Lib.hid (fun W hm => vlight_any v a cap W (hr.more (w' := W) hm) hf hl)
  have HR := Lib.hid hr
  have HB := Lib.hid hb
  have HF := Lib.hid hf
  obtain ⟨ab, cb, rfl, hcb, hmb, _⟩ := hb
  unfold maxLen at hl hmb
  clear hr hf
  obtain ⟨nx, N, hnx, hN⟩ : ∃ nx N, v.next = nx ∧ v.rows.length = N := ⟨_, _, rfl, rfl⟩
  have HN := Lib.hid hN
  have HNX := Lib.hid hnx
  rw [hnx, hN] at HLI ⊢
  rw [hN] at hl
  clear hnx hN
  obtain ⟨pl, pe, hpp⟩ : ∃ pl pe, viewPut v = (pl, pe) := ⟨_, _, rfl⟩
  obtain ⟨gn, GN, rows, ge, hg1, hg2, hg3, hg4⟩ : ∃ gn GN rows ge, (viewGet l).1.next = gn ∧ (viewGet l).1.rows.length = GN ∧ (viewGet l).1.rows = rows ∧ (viewGet l).2 = ge := ⟨_, _, _, _, rfl, rfl, rfl, rfl⟩
  have hGN : GN ≤ 4097 := by rw [← hg2]; exact viewGet_len l
  have hrl : rows.length = GN := by rw [← hg3]; exact hg2
  have hown : N ≤ 1000000 → ∀ W, More w W → Calls Try.prog 10 #[.agg #[.int .i64 nx, .slice a N cap]] W fun x w' => VwIs W w' x nx N v.rows := fun hn W hm => by
    have h := own_any v a cap W (HR.out.more hm) (by rw [HN.out]; exact hn)
    rw [HNX.out, HN.out] at h
    exact h.mono fun e w' h => vwis_of HNX.out HN.out h
  have hput : ∀ W a' c', VRowsAt W a' v.rows → Calls Try.prog 21 #[.agg #[.int .i64 nx, .slice a' N c']] W fun x w' => BTo W w' x pl pe := fun W a' c' h0 => by
    have h := vput_any v a' c' W h0 HF.out (by rw [HN.out]; unfold maxLen; omega)
    rw [HNX.out, HN.out, hpp] at h
    exact h.mono fun e w' h => ⟨bret_rb h⟩
  have hrput : ∀ W, More w W → Calls Try.prog 22 #[.agg #[.int .i64 nx, .slice a N cap]] W fun x w' => BTo W w' x pl pe := fun W hm => by
    have h := rvput_any v a cap W (HR.out.more hm) HF.out (by rw [HN.out]; unfold maxLen; omega)
    rw [HNX.out, HN.out, hpp] at h
    exact h.mono fun e w' h => ⟨bret_rb h⟩
  have hread : l.length ≤ 1000 → ∀ W, More w W → Calls Try.prog 23 #[.slice ab l.length cb] W fun x w' => VwTo W w' x gn GN rows ge := fun h1000 W hm =>
    (vread_any _ l W (HB.out.more hm) (by omega)).mono fun e w' h => vwto_of hg1 hg2 hg3 hg4 h
  have hrread : ∀ W, More w W → Calls Try.prog 24 #[.slice ab l.length cb] W fun x w' => VwTo W w' x gn GN rows ge := fun W hm =>
    (rvread_any _ l W (HB.out.more hm)).mono fun e w' h => vwto_of hg1 hg2 hg3 hg4 h
  have hback : ∀ W a' c', VRowsAt W a' rows → Calls Try.prog 25 #[.agg #[.int .i64 gn, .slice a' GN c']] W fun x w' => VwIs W w' x gn GN rows := fun W a' c' h0 => by
    have h := back_any ⟨gn, rows⟩ a' c' W h0 (by show rows.length ≤ _; omega)
    dsimp only at h
    rw [hrl] at h
    exact h.mono fun e w' h => vwis_of (v := ⟨gn, rows⟩) rfl hrl h
  have hsame : ∀ W a1 c1 a2 c2, VRowsAt W a1 rows → VRowsAt W a2 rows → Calls Try.prog 20 #[.agg #[.int .i64 gn, .slice a1 GN c1], .agg #[.int .i64 gn, .slice a2 GN c2]] W fun e w' => e = .returned (.bool true) ∧ More W w' := fun W a1 c1 a2 c2 h1 h2 => by
    have h := rvsame_any ⟨gn, rows⟩ ⟨gn, rows⟩ a1 a2 c1 c2 W h1 h2 (by show rows.length ≤ _; unfold maxLen; omega) (by show rows.length ≤ _; unfold maxLen; omega)
    dsimp only at h
    rw [hrl, decide_eq_true rfl] at h
    exact h
  have HOWN := Lib.hid hown
  have HPUT := Lib.hid hput
  have HRPUT := Lib.hid hrput
  have HREAD := Lib.hid hread
  have HRREAD := Lib.hid hrread
  have HBACK := Lib.hid hback
  have HSAME := Lib.hid hsame
  clear hpp hg1 hg2 hg3 hg4 hrl hown hput hrput hread hrread hback hsame
  refine calls_wd ?_
  go_enter Try.func4, Try.ntmps4
  by_cases hbig : 1000 < l.length
  · go_wp2_with (first
      | (go_at_call 7; ((with_reducible refine (HLI.out _ (more_wd _ _ _)).mono ?_); rintro e w2 hbr; obtain ⟨bl, rfl, ⟨x9, n9, rfl⟩, hyes⟩ := hbr.out; clear hbr; cases bl <;> (try have h60 := (hyes rfl).1)))
      | (go_at_call 9; ((with_reducible refine (HAW.out _).mono ?_); rintro e w1 ⟨rfl, x1, n1, rfl⟩)))
    all_goals (go_ret; exact ⟨rfl, more_wd _ _ _⟩)
  · have hsm : (l.length : Int) ≤ 1000 := by omega
    go_wp2_with (first
      | (go_at_call 7; ((with_reducible refine (HLI.out _ (more_wd _ _ _)).mono ?_); rintro e w2 hbr; obtain ⟨bl, rfl, ⟨x9, n9, rfl⟩, hyes⟩ := hbr.out; clear hbr; cases bl <;> (try have h60 := (hyes rfl).1)))
      | (go_at_call 9; ((with_reducible refine (HAW.out _).mono ?_); rintro e w1 ⟨rfl, x1, n1, rfl⟩)))
    · go_ret
      exact ⟨rfl, more_wd _ _ _⟩
    · clear hyes
      have HO2 := Lib.hid (HOWN.out (by omega))
      have HR2 := Lib.hid (HREAD.out (by omega))
      go_wp2_with (first
        | (go_at_call 10; ((with_reducible refine (HO2.out _ (more_wd _ _ _)).mono ?_); rintro e w2 hq; obtain ⟨ao, co, rfl, hro, x1, n1, rfl⟩ := hq.out; rw [wd_plus] at hro; have HRO := Lib.hid hro; clear hro hq))
        | (go_at_call 21; ((with_reducible refine (HPUT.out _ _ _ HRO.out).mono ?_); rintro e w2 hq; obtain ⟨u1, rfl, hu1, x2, n2, rfl⟩ := hq.out; rw [wd_plus] at hu1; have HU1 := Lib.hid hu1; clear hu1 hq))
        | (go_at_call 22; ((with_reducible refine (HRPUT.out _ (more_wd _ _ _)).mono ?_); rintro e w2 hq; obtain ⟨u2, rfl, hu2, x3, n3, rfl⟩ := hq.out; rw [wd_plus] at hu2; have HU2 := Lib.hid hu2; clear hu2 hq))
        | (go_at_call 23; ((with_reducible refine (HR2.out _ (more_wd _ _ _)).mono ?_); rintro e w2 hq; obtain ⟨az, cz, rfl, hz, x4, n4, rfl⟩ := hq.out; rw [wd_plus] at hz; have HZ := Lib.hid hz; clear hz hq))
        | (go_at_call 24; ((with_reducible refine (HRREAD.out _ (more_wd _ _ _)).mono ?_); rintro e w2 hq; obtain ⟨aw, cw, rfl, hw, x5, n5, rfl⟩ := hq.out; rw [wd_plus] at hw; have HW := Lib.hid hw; clear hw hq)))
      generalize hbz : sz w.heap.size [x4.size, x3.size, x2.size, x1.size, x9.size, 1] = bz
      generalize hbw : sz w.heap.size [x5.size, 1, x4.size, x3.size, x2.size, x1.size, x9.size, 1] = bw
      obtain ⟨W7, hW7⟩ : ∃ W7, wd w [#[Obj.cells #[Value.int IntKind.i64 gn, Value.slice aw GN cw] 24], x5, #[Obj.cells #[Value.int IntKind.i64 gn, Value.slice az GN cz] 32], x4, x3, x2, x1, x9, #[Obj.cells #[Value.int IntKind.i64 nx, Value.slice a N cap] 24]] n5 = W7 := ⟨_, rfl⟩
      have HM7 : Hid (More w W7) := Lib.hid (hW7 ▸ more_wd _ _ _)
      have hlz : bz < W7.heap.size := by rw [← hW7, ← hbz, wd_size]; simp only [shape, sz]; simp; omega
      have hlw : bw < W7.heap.size := by rw [← hW7, ← hbw, wd_size]; simp only [shape, sz]; simp
      have hz0 : W7.cell? ⟨bz, 0, none⟩ = some (.int .i64 gn) := by
        rw [← hW7, ← hbz, wd_cell_past w _ n5 w.heap.size 0 [x4.size, x3.size, x2.size, x1.size, x9.size, 1] _ rfl (by simp [shape, inn]), wd_cell_past w _ n5 w.heap.size 0 [x4.size, x3.size, x2.size, x1.size, x9.size, 1] _ rfl (by simp [shape, inn]), wd_cell w _ n5 w.heap.size 0 [x4.size, x3.size, x2.size, x1.size, x9.size, 1] _ _ (0, 0) rfl rfl]; rfl
      have hz1 : W7.cell? ⟨bz, 1, none⟩ = some (.slice az GN cz) := by
        rw [← hW7, ← hbz, wd_cell_past w _ n5 w.heap.size 1 [x4.size, x3.size, x2.size, x1.size, x9.size, 1] _ rfl (by simp [shape, inn]), wd_cell_past w _ n5 w.heap.size 1 [x4.size, x3.size, x2.size, x1.size, x9.size, 1] _ rfl (by simp [shape, inn]), wd_cell w _ n5 w.heap.size 1 [x4.size, x3.size, x2.size, x1.size, x9.size, 1] _ _ (0, 0) rfl rfl]; rfl
      have hw0 : W7.cell? ⟨bw, 0, none⟩ = some (.int .i64 gn) := by rw [← hW7, ← hbw, wd_cell w _ n5 w.heap.size 0 [x5.size, 1, x4.size, x3.size, x2.size, x1.size, x9.size, 1] _ _ (0, 0) rfl rfl]; rfl
      have hw1 : W7.cell? ⟨bw, 1, none⟩ = some (.slice aw GN cw) := by rw [← hW7, ← hbw, wd_cell w _ n5 w.heap.size 1 [x5.size, 1, x4.size, x3.size, x2.size, x1.size, x9.size, 1] _ _ (0, 0) rfl rfl]; rfl
      have HZ7 : Hid (VRowsAt W7 az rows) := Lib.hid (by rw [← hW7]; exact HZ.out.more (by repeat (first | exact more_same _ _ _ _ | apply more_cons)))
      have HW7 : Hid (VRowsAt W7 aw rows) := Lib.hid (by rw [← hW7]; exact HW.out.more (by repeat (first | exact more_same _ _ _ _ | apply more_cons)))
      have hu17 : RB W7 u1 pl := by rw [← hW7]; exact HU1.out.more (by repeat (first | exact more_same _ _ _ _ | apply more_cons))
      have hu27 : RB W7 u2 pl := by rw [← hW7]; exact HU2.out.more (by repeat (first | exact more_same _ _ _ _ | apply more_cons))
      have hs1 := fun (L : List (Array Obj)) (n : Nat) => (hu17.more (more_wd W7 L n)).run_str (P := Try.prog) 48 9 5 Try.underlying48 Try.underlying5 Try.underlying9
      have hs2 := fun (L : List (Array Obj)) (n : Nat) => (hu27.more (more_wd W7 L n)).run_str (P := Try.prog) 48 9 5 Try.underlying48 Try.underlying5 Try.underlying9
      have hq : ((str pl).toList == (str pl).toList) = true := by simp
      rw [hW7, ← wd_nil W7]
      clear hW7 hbz hbw HZ HW HU1 HU2 HRO hu17 hu27 HO2 HR2 HOWN HPUT HRPUT HREAD HRREAD HLI HR HB HF
      refine wp_region_callm (fun (m : Ext) => wd W7 [m.e] m.n) (⟨#[], W7.drawn + 1⟩) [0, 1, 2, 3, 4, 5, 6, 7, 8, 9, 10, 11, 13] 12 [14, 15, 16, 17, 18, 19, 20, 21, 22, 23, 24] [true, true, true, true, true, true, true, true, true, true, true, true, false, true] [false, false, false, false, false, false, false, false, false, false, false, false, true] [false, false, false, false, false, false, false, false, false, false, false, false, false, false, true, true, true, true, true, true, true, true, true, true, true] rfl ⟨rfl, rfl, rfl⟩ (by kernel_rfl) (by kernel_rfl) (fun _ _ d _ _ h => by cases d <;> exact h) ?_
      apply Exists.intro
      refine ⟨?_, ?_⟩
      · intro E
        simp only [sel_t, sel_f, sel_n]
        repeat (go_big_quiet_step ((fail)))
        exact wpQuiet_nil rfl
      simp only [sel_t, sel_f, sel_n]
      go_wp2_with (first
        | (go_at_call 25; ((with_reducible refine (HBACK.out _ _ _ (HZ7.out.more (more_wd _ _ _))).mono ?_); rintro e w2 hq; obtain ⟨ab2, cb2, rfl, hb2, x6, n6, rfl⟩ := hq.out; rw [wd_plus, wd_merge, Array.empty_append] at hb2; have HB2 := Lib.hid hb2; clear hb2 hq)))
      rw [wd_merge, Array.empty_append]
      refine ⟨⟨⟨x6, n6⟩, rfl⟩, ?_⟩
      refine afterm_of (fun m => ⟨⟨x6 ++ m.e, m.n⟩, by rw [wd_merge]⟩) ?_
      simp only [sel_t, sel_f, sel_n]
      repeat (go_big_quiet_step ((first | (go_at_call 20; with_reducible exact Calls.wd_of (HSAME.out _ _ _ _ _ (HB2.out.more (more_cons (more_same _ _ _ _))) (HW7.out.more (more_wd _ _ _)))) | (go_at_call 9; with_reducible exact Calls.wd_of (HAW.out _)))))
      refine wpQuiet_nil ?_
      rintro _ ⟨mx, rfl⟩
      go_wp2
      go_ret
      exact ⟨rfl, HM7.out.trans (more_wd _ _ _)⟩
end Go.Proofs.Ytlanghikmccmbaa
