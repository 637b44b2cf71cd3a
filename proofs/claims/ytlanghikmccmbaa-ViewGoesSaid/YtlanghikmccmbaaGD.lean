/- ViewGoes: the walk. -/
import Derived.Test.YtlanghikmccmbaaGB
import Derived.Test.YtlanghikmccmbaaMF
namespace Go.Proofs.Ytlanghikmccmbaa
open Go.ChangeShapes Go.WideShapes Go.ChangeAt Go.RowKit
set_option linter.unusedVariables false
set_option linter.unusedSimpArgs false
theorem wd_split (w : World) : ∀ (A L : List (Array Obj)) (n m : Nat), wd w (A ++ L) n = wd (wd w L m) A n := by
  intro A L n m
  refine world_ext ?_ rfl rfl rfl rfl
  show hp w.heap (A ++ L) = hp (hp w.heap L) A
  induction A with
  | nil => rfl
  | cons x A ih => show hp w.heap (A ++ L) ++ x = hp (hp w.heap L) A ++ x; rw [ih]
set_option maxRecDepth 100000 in
set_option maxHeartbeats 8000000 in
theorem goes_any (ad : Option Addr) (cap : Nat) (l : List Btm) (c : Nat) (w : World) (hB : BatsAt w ad l) (hf : ∀ x ∈ l, x.b.recs.length ≤ maxLen) (hlm : l.length ≤ maxLen) (hlc : l.length ≤ cap) (hcm : cap ≤ maxLen) (hc : c < 256) :
    Calls Try.prog 5 #[.slice ad l.length cap, .int .u8 c] w fun e w' => e = .returned (.bool true) ∧ More w w' := by
  have HAW := Lib.hid awake36
  have HLL := Lib.hid (fun W hm => light_bats ad cap l 12 W (hB.more (w' := W) hm) hf hlm (by decide))
  have HRI := Lib.hid (fun W hm => rising_any ad cap l W (hB.more (w' := W) hm) hf hlm)
  obtain ⟨R, hR⟩ : ∃ R, risesB 0 (l.map Btm.b) = R := ⟨_, rfl⟩
  rw [hR] at HRI
  obtain ⟨k, hk⟩ : ∃ k, c % (l.length + 1) = k := ⟨_, rfl⟩
  have hkn : k ≤ l.length := by have := Nat.mod_lt c (show 0 < l.length + 1 by omega); omega
  have hkz : (c : Int).tmod ((l.length : Int) + 1) = (k : Int) := by rw [← hk]; rfl
  obtain ⟨a5, hs5, hb5⟩ := bslice_to (ad := ad) (l := l) cap k hkn hlc (by unfold maxLen at hcm; omega)
  have HB5 := Lib.hid (fun W hm => hb5 W (hB.more (w' := W) hm))
  have HGO := Lib.hid (fun hr h12 => goes_ok ad cap l k w hB hf h12 hr hkn)
  have HB := Lib.hid hB
  rw [hR] at HGO
  unfold maxLen at hlm hcm
  clear hk hR hb5 hf hB
  cases R with
  | false =>
    refine calls_wd ?_
    go_enter Try.func5, Try.ntmps5
    go_wp2_with (first
      | (go_at_call 26; ((with_reducible refine (HLL.out _ (more_wd _ _ _)).mono ?_); rintro e w2 hbr; obtain ⟨bl, rfl, ⟨x7, n7, rfl⟩, -⟩ := hbr.out; clear hbr; cases bl))
      | (go_at_call 27; ((with_reducible refine (HRI.out _ (more_wd _ _ _)).mono ?_); rintro e w1 ⟨rfl, x1, n1, rfl⟩))
      | (go_at_call 9; ((with_reducible refine (HAW.out _).mono ?_); rintro e w1 ⟨rfl, x1, n1, rfl⟩)))
    all_goals (go_ret; exact ⟨rfl, more_wd _ _ _⟩)
  | true =>
    refine calls_wd ?_
    go_enter Try.func5, Try.ntmps5
    go_wp2_with (first
      | (go_at_call 26; ((with_reducible refine (HLL.out _ (more_wd _ _ _)).mono ?_); rintro e w2 hbr; obtain ⟨bl, rfl, ⟨x7, n7, rfl⟩, hy⟩ := hbr.out; clear hbr; cases bl <;> (try have h12 := hy rfl)))
      | (go_at_call 27; ((with_reducible refine (HRI.out _ (more_wd _ _ _)).mono ?_); rintro e w1 ⟨rfl, x1, n1, rfl⟩))
      | (go_at_call 9; ((with_reducible refine (HAW.out _).mono ?_); rintro e w1 ⟨rfl, x1, n1, rfl⟩)))
    · go_ret
      exact ⟨rfl, more_wd _ _ _⟩
    obtain ⟨S, hS⟩ := HGO.out (by first | rfl | trivial) (by omega)
    have HG := Lib.hid hS
    clear hS hy HLL HRI HGO
    go_wp2_with (first
      | (go_at_call 28; ((with_reducible refine (HG.out.part _ _ (HB5.out _ (more_wd _ _ _))).mono ?_); rintro e w2 hq; obtain ⟨av, cv, rfl, hv, x6, n6, rfl⟩ := hq.out; rw [wd_plus] at hv; have HV := Lib.hid hv; clear hv hq))
      | (go_at_call 28; ((with_reducible refine (HG.out.all _ (more_wd _ _ _)).mono ?_); rintro e w2 hq; obtain ⟨aa, ca, rfl, hv, x5, n5, rfl⟩ := hq.out; rw [wd_plus] at hv; have HAL := Lib.hid hv; clear hv hq))
      | (go_at_call 21; ((with_reducible refine (HG.out.put _ _ _ (HV.out.more (by repeat (first | exact more_same _ _ _ _ | apply more_cons)))).mono ?_); rintro e w2 hq; obtain ⟨vb, rfl, hm4⟩ := hq.out; obtain ⟨x4, rfl, hrb⟩ := hm4.wd; have HRB := Lib.hid hrb; clear hrb hq hm4))
      | (go_at_call 23; ((with_reducible refine (HG.out.read _ _ (RB.of_row HRB.out _ rfl)).mono ?_); rintro e w2 hq; obtain ⟨aw, cw, rfl, hv, x3, n3, rfl⟩ := hq.out; rw [wd_plus] at hv; have HW := Lib.hid hv; clear hv hq))
      | (go_at_call 19; ((with_reducible refine (HG.out.same _ k _ _ _ _ hkn (HV.out.more (by repeat (first | exact more_same _ _ _ _ | apply more_cons))) (HW.out.more (by repeat (first | exact more_same _ _ _ _ | apply more_cons)))).mono ?_); rintro e w2 ⟨rfl, x2, n2, rfl⟩)))
    generalize hqw : sz w.heap.size [x3.size, x4.e.size, 1, x5.size, 1, x6.size, x1.size, x7.size] = qw
    generalize hqa : sz w.heap.size [x5.size, 1, x6.size, x1.size, x7.size] = qa
    generalize hqv : sz w.heap.size [x6.size, x1.size, x7.size] = qv
    obtain ⟨w0, hw0⟩ : ∃ w0, wd w [x3, x4.e, #[Obj.cells #[Value.int IntKind.i64 (upV l l.length).next, Value.slice aa (upV l l.length).rows.length ca] 32], x5, #[Obj.cells #[Value.int IntKind.i64 (upV l k).next, Value.slice av (upV l k).rows.length cv] 32], x6, x1, x7] n3 = w0 := ⟨_, rfl⟩
    have HM0 : Hid (More w w0) := Lib.hid (hw0 ▸ more_wd _ _ _)
    have ha0 : w0.cell? ⟨qa, 0, none⟩ = some (.int .i64 (upV l l.length).next) := by rw [← hw0, ← hqa]; exact (mid_cell' w _ _ _ n3 0 [_, _]).trans rfl
    have ha1 : w0.cell? ⟨qa, 1, none⟩ = some (.slice aa (upV l l.length).rows.length ca) := by rw [← hw0, ← hqa]; exact (mid_cell' w _ _ _ n3 1 [_, _]).trans rfl
    have hla := cell_lt' ha0
    have hv0 : w0.cell? ⟨qv, 0, none⟩ = some (.int .i64 (upV l k).next) := by rw [← hw0, ← hqv]; exact (mid_cell' w _ _ _ n3 0 [_, _, _, _]).trans rfl
    have hv1 : w0.cell? ⟨qv, 1, none⟩ = some (.slice av (upV l k).rows.length cv) := by rw [← hw0, ← hqv]; exact (mid_cell' w _ _ _ n3 1 [_, _, _, _]).trans rfl
    have hlv := cell_lt' hv0
    have hq0 : qw = sz w0.heap.size [] := by rw [← hqw, ← hw0, wd_size]; rfl
    have HA0 : Hid (VRowsAt w0 aa (upV l l.length).rows) := Lib.hid (by rw [← hw0]; exact HAL.out.more (by repeat (first | exact more_same _ _ _ _ | apply more_cons)))
    have HV0 : Hid (VRowsAt w0 av (upV l k).rows) := Lib.hid (by rw [← hw0]; exact HV.out.more (by repeat (first | exact more_same _ _ _ _ | apply more_cons)))
    have HW0 : Hid (VRowsAt w0 aw (upV l k).rows) := Lib.hid (by rw [← hw0]; exact HW.out.more (by repeat (first | exact more_same _ _ _ _ | apply more_cons)))
    have e0 := wd_split w [x2, #[Obj.cells #[Value.int IntKind.i64 (upV l k).next, Value.slice aw (upV l k).rows.length cw] 32]] [x3, x4.e, #[Obj.cells #[Value.int IntKind.i64 (upV l l.length).next, Value.slice aa (upV l l.length).rows.length ca] 32], x5, #[Obj.cells #[Value.int IntKind.i64 (upV l k).next, Value.slice av (upV l k).rows.length cv] 32], x6, x1, x7] n2 n3
    rw [hw0] at e0
    simp only [List.cons_append, List.nil_append] at e0
    rw [e0]
    subst hq0
    clear e0 hw0 hqw hqa hqv HV HAL HW HRB
    go_loopw [15] (fun s15 wr => ∃ (i : Nat) (m : Ext) (a : Option Addr) (cc : Nat), k ≤ i ∧ i ≤ l.length ∧ s15 = .int .i64 i ∧ Hid (VRowsAt (wd w0 [m.e, #[.cells #[.int .i64 (upV l i).next, .slice a (upV l i).rows.length cc] 32]] m.n) a (upV l i).rows) ∧ wr = wd w0 [m.e, #[.cells #[.int .i64 (upV l i).next, .slice a (upV l i).rows.length cc] 32]] m.n) (fun s15 _ => l.length - (intOf s15).toNat)
    case atStart => exact ⟨k, ⟨x2, n2⟩, aw, cw, Nat.le_refl _, hkn, rfl, Lib.hid (HW0.out.more (more_wd _ _ _)), rfl⟩
    case round =>
      obtain ⟨i, m, a, cc, hki, hil, rfl, HI, rfl⟩ := hrel
      by_cases hlt : i < l.length
      · obtain ⟨x, hx⟩ : ∃ x, l[i]? = some x := ⟨_, List.getElem?_eq_getElem hlt⟩
        obtain ⟨bb, off, rfl, hb, c0, c1, c2, c3, c4, c5⟩ := bats_at (HB.out.more HM0.out) i x hx
        have HAP := Lib.hid (HG.out.apply i x hx)
        obtain ⟨⟨b0, b1, b2, b3, b4, rs⟩, xa, xc⟩ := x
        dsimp only at HAP c0 c1 c2 c3 c4 c5
        clear hx
        go_wp2
        refine wp_region_U (fun (s : Ext) => wd w0 [s.e, #[.cells #[.int .i64 (upV l i).next, .slice a (upV l i).rows.length cc] 32]] s.n) (⟨m.e, m.n + 1⟩) [0, 1, 2, 3, 4] (.alt (.one 5 (.alt (.one 6 (.alt (.one 7 (.alt (.one 8 (.one 9 (.one 10 (.one 11 .done)))) (.one 9 (.alt (.one 8 (.one 10 (.one 11 .done))) (.one 10 (.one 8 (.one 11 .done))))))) (.alt (.one 8 (.alt (.one 7 (.one 9 (.one 10 (.one 11 .done)))) (.one 9 (.one 7 (.one 10 (.one 11 .done)))))) (.one 9 (.alt (.one 7 (.alt (.one 8 (.one 10 (.one 11 .done))) (.one 10 (.one 8 (.one 11 .done))))) (.one 8 (.one 7 (.one 10 (.one 11 .done))))))))) (.one 9 (.one 6 (.alt (.one 7 (.alt (.one 8 (.one 10 (.one 11 .done))) (.one 10 (.one 8 (.one 11 .done))))) (.one 8 (.one 7 (.one 10 (.one 11 .done))))))))) (.one 9 (.one 5 (.one 6 (.alt (.one 7 (.alt (.one 8 (.one 10 (.one 11 .done))) (.one 10 (.one 8 (.one 11 .done))))) (.one 8 (.one 7 (.one 10 (.one 11 .done))))))))) [true, true, true, true, true] (wd_drew _ _ _) rfl (by kernel_rfl) (by kernel_rfl) (fun _ _ d _ _ h => by cases d <;> exact h) ?_
        apply Exists.intro
        refine ⟨?_, ?_⟩
        · intro E
          simp only [sel_t, sel_f, sel_n]
          repeat (go_big_quiet_step ((fail)))
          exact wpQuiet_nil rfl
        -- ORDERS
        refine loudU_alt ?_ ?_
        focus
          refine loudU_one [false, false, false, false, false, true] rfl ?_
          simp only [sel_t, sel_f, sel_n]
          go_wp2_with (first | (go_at_call 29; ((with_reducible refine (HAP.out _ _ _ (HM0.out.trans (more_wd _ _ _)) (HI.out.more (by repeat (first | exact more_same _ _ _ _ | apply more_cons)))).mono ?_); rintro e w2 hq; obtain ⟨a9, c9, rfl, hv, ⟨x9, n9, rfl⟩, hf9⟩ := hq.out; rw [wd_plus] at hv; have HV9 := Lib.hid hv; have HF9 := Lib.hid hf9; clear hv hq hf9)))
          refine ⟨by first | exact ⟨⟨_, _⟩, rfl⟩ | exact ⟨⟨_, _⟩, wd_merge _ _ _ _ _⟩ | exact ⟨⟨_, _⟩, (wd_merge _ _ _ _ _).trans (wd_merge _ _ _ _ _)⟩ | exact cl2 _ _ _ _ _ _, ?_⟩
          refine loudU_alt ?_ ?_
          focus
            refine loudU_one [false, false, false, false, false, false, true] rfl ?_
            simp only [sel_t, sel_f, sel_n]
            go_wp2
            refine ⟨by first | exact ⟨⟨_, _⟩, rfl⟩ | exact ⟨⟨_, _⟩, wd_merge _ _ _ _ _⟩ | exact ⟨⟨_, _⟩, (wd_merge _ _ _ _ _).trans (wd_merge _ _ _ _ _)⟩ | exact cl2 _ _ _ _ _ _, ?_⟩
            refine loudU_alt ?_ ?_
            focus
              refine loudU_one [false, false, false, false, false, false, false, true] rfl ?_
              simp only [sel_t, sel_f, sel_n]
              go_wp2
              refine ⟨by first | exact ⟨⟨_, _⟩, rfl⟩ | exact ⟨⟨_, _⟩, wd_merge _ _ _ _ _⟩ | exact ⟨⟨_, _⟩, (wd_merge _ _ _ _ _).trans (wd_merge _ _ _ _ _)⟩ | exact cl2 _ _ _ _ _ _, ?_⟩
              refine loudU_alt ?_ ?_
              focus
                refine loudU_one [false, false, false, false, false, false, false, false, true] rfl ?_
                simp only [sel_t, sel_f, sel_n]
                go_wp2
                refine ⟨by first | exact ⟨⟨_, _⟩, rfl⟩ | exact ⟨⟨_, _⟩, wd_merge _ _ _ _ _⟩ | exact ⟨⟨_, _⟩, (wd_merge _ _ _ _ _).trans (wd_merge _ _ _ _ _)⟩ | exact cl2 _ _ _ _ _ _, ?_⟩
                refine loudU_one [false, false, false, false, false, false, false, false, false, true] rfl ?_
                simp only [sel_t, sel_f, sel_n]
                go_wp2
                refine ⟨by first | exact ⟨⟨_, _⟩, rfl⟩ | exact ⟨⟨_, _⟩, wd_merge _ _ _ _ _⟩ | exact ⟨⟨_, _⟩, (wd_merge _ _ _ _ _).trans (wd_merge _ _ _ _ _)⟩ | exact cl2 _ _ _ _ _ _, ?_⟩
                refine loudU_one [false, false, false, false, false, false, false, false, false, false, true] rfl ?_
                simp only [sel_t, sel_f, sel_n]
                go_wp2
                refine ⟨by first | exact ⟨⟨_, _⟩, rfl⟩ | exact ⟨⟨_, _⟩, wd_merge _ _ _ _ _⟩ | exact ⟨⟨_, _⟩, (wd_merge _ _ _ _ _).trans (wd_merge _ _ _ _ _)⟩ | exact cl2 _ _ _ _ _ _, ?_⟩
                refine loudU_one [false, false, false, false, false, false, false, false, false, false, false, true] rfl ?_
                simp only [sel_t, sel_f, sel_n]
                go_wp2
                refine ⟨by first | exact ⟨⟨_, _⟩, rfl⟩ | exact ⟨⟨_, _⟩, wd_merge _ _ _ _ _⟩ | exact ⟨⟨_, _⟩, (wd_merge _ _ _ _ _).trans (wd_merge _ _ _ _ _)⟩ | exact cl2 _ _ _ _ _ _, ?_⟩
                refine loudU_done ?_
                go_wp2
                go_roundw
                case rel =>
                  refine ⟨i + 1, ⟨_, _⟩, a9, c9, by omega, by omega, by go_num, Lib.hid ?_, wd_merge3 _ _ _ _ _ _⟩
                  first | exact rowsA HV9.out HF9.out rfl rfl | exact rowsX HV9.out HF9.out rfl
                case measure => simp [intOf]; omega
              refine loudU_one [false, false, false, false, false, false, false, false, false, true] rfl ?_
              simp only [sel_t, sel_f, sel_n]
              go_wp2
              refine ⟨by first | exact ⟨⟨_, _⟩, rfl⟩ | exact ⟨⟨_, _⟩, wd_merge _ _ _ _ _⟩ | exact ⟨⟨_, _⟩, (wd_merge _ _ _ _ _).trans (wd_merge _ _ _ _ _)⟩ | exact cl2 _ _ _ _ _ _, ?_⟩
              refine loudU_alt ?_ ?_
              focus
                refine loudU_one [false, false, false, false, false, false, false, false, true] rfl ?_
                simp only [sel_t, sel_f, sel_n]
                go_wp2
                refine ⟨by first | exact ⟨⟨_, _⟩, rfl⟩ | exact ⟨⟨_, _⟩, wd_merge _ _ _ _ _⟩ | exact ⟨⟨_, _⟩, (wd_merge _ _ _ _ _).trans (wd_merge _ _ _ _ _)⟩ | exact cl2 _ _ _ _ _ _, ?_⟩
                refine loudU_one [false, false, false, false, false, false, false, false, false, false, true] rfl ?_
                simp only [sel_t, sel_f, sel_n]
                go_wp2
                refine ⟨by first | exact ⟨⟨_, _⟩, rfl⟩ | exact ⟨⟨_, _⟩, wd_merge _ _ _ _ _⟩ | exact ⟨⟨_, _⟩, (wd_merge _ _ _ _ _).trans (wd_merge _ _ _ _ _)⟩ | exact cl2 _ _ _ _ _ _, ?_⟩
                refine loudU_one [false, false, false, false, false, false, false, false, false, false, false, true] rfl ?_
                simp only [sel_t, sel_f, sel_n]
                go_wp2
                refine ⟨by first | exact ⟨⟨_, _⟩, rfl⟩ | exact ⟨⟨_, _⟩, wd_merge _ _ _ _ _⟩ | exact ⟨⟨_, _⟩, (wd_merge _ _ _ _ _).trans (wd_merge _ _ _ _ _)⟩ | exact cl2 _ _ _ _ _ _, ?_⟩
                refine loudU_done ?_
                go_wp2
                go_roundw
                case rel =>
                  refine ⟨i + 1, ⟨_, _⟩, a9, c9, by omega, by omega, by go_num, Lib.hid ?_, wd_merge3 _ _ _ _ _ _⟩
                  first | exact rowsA HV9.out HF9.out rfl rfl | exact rowsX HV9.out HF9.out rfl
                case measure => simp [intOf]; omega
              refine loudU_one [false, false, false, false, false, false, false, false, false, false, true] rfl ?_
              simp only [sel_t, sel_f, sel_n]
              go_wp2
              refine ⟨by first | exact ⟨⟨_, _⟩, rfl⟩ | exact ⟨⟨_, _⟩, wd_merge _ _ _ _ _⟩ | exact ⟨⟨_, _⟩, (wd_merge _ _ _ _ _).trans (wd_merge _ _ _ _ _)⟩ | exact cl2 _ _ _ _ _ _, ?_⟩
              refine loudU_one [false, false, false, false, false, false, false, false, true] rfl ?_
              simp only [sel_t, sel_f, sel_n]
              go_wp2
              refine ⟨by first | exact ⟨⟨_, _⟩, rfl⟩ | exact ⟨⟨_, _⟩, wd_merge _ _ _ _ _⟩ | exact ⟨⟨_, _⟩, (wd_merge _ _ _ _ _).trans (wd_merge _ _ _ _ _)⟩ | exact cl2 _ _ _ _ _ _, ?_⟩
              refine loudU_one [false, false, false, false, false, false, false, false, false, false, false, true] rfl ?_
              simp only [sel_t, sel_f, sel_n]
              go_wp2
              refine ⟨by first | exact ⟨⟨_, _⟩, rfl⟩ | exact ⟨⟨_, _⟩, wd_merge _ _ _ _ _⟩ | exact ⟨⟨_, _⟩, (wd_merge _ _ _ _ _).trans (wd_merge _ _ _ _ _)⟩ | exact cl2 _ _ _ _ _ _, ?_⟩
              refine loudU_done ?_
              go_wp2
              go_roundw
              case rel =>
                refine ⟨i + 1, ⟨_, _⟩, a9, c9, by omega, by omega, by go_num, Lib.hid ?_, wd_merge3 _ _ _ _ _ _⟩
                first | exact rowsA HV9.out HF9.out rfl rfl | exact rowsX HV9.out HF9.out rfl
              case measure => simp [intOf]; omega
            refine loudU_alt ?_ ?_
            focus
              refine loudU_one [false, false, false, false, false, false, false, false, true] rfl ?_
              simp only [sel_t, sel_f, sel_n]
              go_wp2
              refine ⟨by first | exact ⟨⟨_, _⟩, rfl⟩ | exact ⟨⟨_, _⟩, wd_merge _ _ _ _ _⟩ | exact ⟨⟨_, _⟩, (wd_merge _ _ _ _ _).trans (wd_merge _ _ _ _ _)⟩ | exact cl2 _ _ _ _ _ _, ?_⟩
              refine loudU_alt ?_ ?_
              focus
                refine loudU_one [false, false, false, false, false, false, false, true] rfl ?_
                simp only [sel_t, sel_f, sel_n]
                go_wp2
                refine ⟨by first | exact ⟨⟨_, _⟩, rfl⟩ | exact ⟨⟨_, _⟩, wd_merge _ _ _ _ _⟩ | exact ⟨⟨_, _⟩, (wd_merge _ _ _ _ _).trans (wd_merge _ _ _ _ _)⟩ | exact cl2 _ _ _ _ _ _, ?_⟩
                refine loudU_one [false, false, false, false, false, false, false, false, false, true] rfl ?_
                simp only [sel_t, sel_f, sel_n]
                go_wp2
                refine ⟨by first | exact ⟨⟨_, _⟩, rfl⟩ | exact ⟨⟨_, _⟩, wd_merge _ _ _ _ _⟩ | exact ⟨⟨_, _⟩, (wd_merge _ _ _ _ _).trans (wd_merge _ _ _ _ _)⟩ | exact cl2 _ _ _ _ _ _, ?_⟩
                refine loudU_one [false, false, false, false, false, false, false, false, false, false, true] rfl ?_
                simp only [sel_t, sel_f, sel_n]
                go_wp2
                refine ⟨by first | exact ⟨⟨_, _⟩, rfl⟩ | exact ⟨⟨_, _⟩, wd_merge _ _ _ _ _⟩ | exact ⟨⟨_, _⟩, (wd_merge _ _ _ _ _).trans (wd_merge _ _ _ _ _)⟩ | exact cl2 _ _ _ _ _ _, ?_⟩
                refine loudU_one [false, false, false, false, false, false, false, false, false, false, false, true] rfl ?_
                simp only [sel_t, sel_f, sel_n]
                go_wp2
                refine ⟨by first | exact ⟨⟨_, _⟩, rfl⟩ | exact ⟨⟨_, _⟩, wd_merge _ _ _ _ _⟩ | exact ⟨⟨_, _⟩, (wd_merge _ _ _ _ _).trans (wd_merge _ _ _ _ _)⟩ | exact cl2 _ _ _ _ _ _, ?_⟩
                refine loudU_done ?_
                go_wp2
                go_roundw
                case rel =>
                  refine ⟨i + 1, ⟨_, _⟩, a9, c9, by omega, by omega, by go_num, Lib.hid ?_, wd_merge3 _ _ _ _ _ _⟩
                  first | exact rowsA HV9.out HF9.out rfl rfl | exact rowsX HV9.out HF9.out rfl
                case measure => simp [intOf]; omega
              refine loudU_one [false, false, false, false, false, false, false, false, false, true] rfl ?_
              simp only [sel_t, sel_f, sel_n]
              go_wp2
              refine ⟨by first | exact ⟨⟨_, _⟩, rfl⟩ | exact ⟨⟨_, _⟩, wd_merge _ _ _ _ _⟩ | exact ⟨⟨_, _⟩, (wd_merge _ _ _ _ _).trans (wd_merge _ _ _ _ _)⟩ | exact cl2 _ _ _ _ _ _, ?_⟩
              refine loudU_one [false, false, false, false, false, false, false, true] rfl ?_
              simp only [sel_t, sel_f, sel_n]
              go_wp2
              refine ⟨by first | exact ⟨⟨_, _⟩, rfl⟩ | exact ⟨⟨_, _⟩, wd_merge _ _ _ _ _⟩ | exact ⟨⟨_, _⟩, (wd_merge _ _ _ _ _).trans (wd_merge _ _ _ _ _)⟩ | exact cl2 _ _ _ _ _ _, ?_⟩
              refine loudU_one [false, false, false, false, false, false, false, false, false, false, true] rfl ?_
              simp only [sel_t, sel_f, sel_n]
              go_wp2
              refine ⟨by first | exact ⟨⟨_, _⟩, rfl⟩ | exact ⟨⟨_, _⟩, wd_merge _ _ _ _ _⟩ | exact ⟨⟨_, _⟩, (wd_merge _ _ _ _ _).trans (wd_merge _ _ _ _ _)⟩ | exact cl2 _ _ _ _ _ _, ?_⟩
              refine loudU_one [false, false, false, false, false, false, false, false, false, false, false, true] rfl ?_
              simp only [sel_t, sel_f, sel_n]
              go_wp2
              refine ⟨by first | exact ⟨⟨_, _⟩, rfl⟩ | exact ⟨⟨_, _⟩, wd_merge _ _ _ _ _⟩ | exact ⟨⟨_, _⟩, (wd_merge _ _ _ _ _).trans (wd_merge _ _ _ _ _)⟩ | exact cl2 _ _ _ _ _ _, ?_⟩
              refine loudU_done ?_
              go_wp2
              go_roundw
              case rel =>
                refine ⟨i + 1, ⟨_, _⟩, a9, c9, by omega, by omega, by go_num, Lib.hid ?_, wd_merge3 _ _ _ _ _ _⟩
                first | exact rowsA HV9.out HF9.out rfl rfl | exact rowsX HV9.out HF9.out rfl
              case measure => simp [intOf]; omega
            refine loudU_one [false, false, false, false, false, false, false, false, false, true] rfl ?_
            simp only [sel_t, sel_f, sel_n]
            go_wp2
            refine ⟨by first | exact ⟨⟨_, _⟩, rfl⟩ | exact ⟨⟨_, _⟩, wd_merge _ _ _ _ _⟩ | exact ⟨⟨_, _⟩, (wd_merge _ _ _ _ _).trans (wd_merge _ _ _ _ _)⟩ | exact cl2 _ _ _ _ _ _, ?_⟩
            refine loudU_alt ?_ ?_
            focus
              refine loudU_one [false, false, false, false, false, false, false, true] rfl ?_
              simp only [sel_t, sel_f, sel_n]
              go_wp2
              refine ⟨by first | exact ⟨⟨_, _⟩, rfl⟩ | exact ⟨⟨_, _⟩, wd_merge _ _ _ _ _⟩ | exact ⟨⟨_, _⟩, (wd_merge _ _ _ _ _).trans (wd_merge _ _ _ _ _)⟩ | exact cl2 _ _ _ _ _ _, ?_⟩
              refine loudU_alt ?_ ?_
              focus
                refine loudU_one [false, false, false, false, false, false, false, false, true] rfl ?_
                simp only [sel_t, sel_f, sel_n]
                go_wp2
                refine ⟨by first | exact ⟨⟨_, _⟩, rfl⟩ | exact ⟨⟨_, _⟩, wd_merge _ _ _ _ _⟩ | exact ⟨⟨_, _⟩, (wd_merge _ _ _ _ _).trans (wd_merge _ _ _ _ _)⟩ | exact cl2 _ _ _ _ _ _, ?_⟩
                refine loudU_one [false, false, false, false, false, false, false, false, false, false, true] rfl ?_
                simp only [sel_t, sel_f, sel_n]
                go_wp2
                refine ⟨by first | exact ⟨⟨_, _⟩, rfl⟩ | exact ⟨⟨_, _⟩, wd_merge _ _ _ _ _⟩ | exact ⟨⟨_, _⟩, (wd_merge _ _ _ _ _).trans (wd_merge _ _ _ _ _)⟩ | exact cl2 _ _ _ _ _ _, ?_⟩
                refine loudU_one [false, false, false, false, false, false, false, false, false, false, false, true] rfl ?_
                simp only [sel_t, sel_f, sel_n]
                go_wp2
                refine ⟨by first | exact ⟨⟨_, _⟩, rfl⟩ | exact ⟨⟨_, _⟩, wd_merge _ _ _ _ _⟩ | exact ⟨⟨_, _⟩, (wd_merge _ _ _ _ _).trans (wd_merge _ _ _ _ _)⟩ | exact cl2 _ _ _ _ _ _, ?_⟩
                refine loudU_done ?_
                go_wp2
                go_roundw
                case rel =>
                  refine ⟨i + 1, ⟨_, _⟩, a9, c9, by omega, by omega, by go_num, Lib.hid ?_, wd_merge3 _ _ _ _ _ _⟩
                  first | exact rowsA HV9.out HF9.out rfl rfl | exact rowsX HV9.out HF9.out rfl
                case measure => simp [intOf]; omega
              refine loudU_one [false, false, false, false, false, false, false, false, false, false, true] rfl ?_
              simp only [sel_t, sel_f, sel_n]
              go_wp2
              refine ⟨by first | exact ⟨⟨_, _⟩, rfl⟩ | exact ⟨⟨_, _⟩, wd_merge _ _ _ _ _⟩ | exact ⟨⟨_, _⟩, (wd_merge _ _ _ _ _).trans (wd_merge _ _ _ _ _)⟩ | exact cl2 _ _ _ _ _ _, ?_⟩
              refine loudU_one [false, false, false, false, false, false, false, false, true] rfl ?_
              simp only [sel_t, sel_f, sel_n]
              go_wp2
              refine ⟨by first | exact ⟨⟨_, _⟩, rfl⟩ | exact ⟨⟨_, _⟩, wd_merge _ _ _ _ _⟩ | exact ⟨⟨_, _⟩, (wd_merge _ _ _ _ _).trans (wd_merge _ _ _ _ _)⟩ | exact cl2 _ _ _ _ _ _, ?_⟩
              refine loudU_one [false, false, false, false, false, false, false, false, false, false, false, true] rfl ?_
              simp only [sel_t, sel_f, sel_n]
              go_wp2
              refine ⟨by first | exact ⟨⟨_, _⟩, rfl⟩ | exact ⟨⟨_, _⟩, wd_merge _ _ _ _ _⟩ | exact ⟨⟨_, _⟩, (wd_merge _ _ _ _ _).trans (wd_merge _ _ _ _ _)⟩ | exact cl2 _ _ _ _ _ _, ?_⟩
              refine loudU_done ?_
              go_wp2
              go_roundw
              case rel =>
                refine ⟨i + 1, ⟨_, _⟩, a9, c9, by omega, by omega, by go_num, Lib.hid ?_, wd_merge3 _ _ _ _ _ _⟩
                first | exact rowsA HV9.out HF9.out rfl rfl | exact rowsX HV9.out HF9.out rfl
              case measure => simp [intOf]; omega
            refine loudU_one [false, false, false, false, false, false, false, false, true] rfl ?_
            simp only [sel_t, sel_f, sel_n]
            go_wp2
            refine ⟨by first | exact ⟨⟨_, _⟩, rfl⟩ | exact ⟨⟨_, _⟩, wd_merge _ _ _ _ _⟩ | exact ⟨⟨_, _⟩, (wd_merge _ _ _ _ _).trans (wd_merge _ _ _ _ _)⟩ | exact cl2 _ _ _ _ _ _, ?_⟩
            refine loudU_one [false, false, false, false, false, false, false, true] rfl ?_
            simp only [sel_t, sel_f, sel_n]
            go_wp2
            refine ⟨by first | exact ⟨⟨_, _⟩, rfl⟩ | exact ⟨⟨_, _⟩, wd_merge _ _ _ _ _⟩ | exact ⟨⟨_, _⟩, (wd_merge _ _ _ _ _).trans (wd_merge _ _ _ _ _)⟩ | exact cl2 _ _ _ _ _ _, ?_⟩
            refine loudU_one [false, false, false, false, false, false, false, false, false, false, true] rfl ?_
            simp only [sel_t, sel_f, sel_n]
            go_wp2
            refine ⟨by first | exact ⟨⟨_, _⟩, rfl⟩ | exact ⟨⟨_, _⟩, wd_merge _ _ _ _ _⟩ | exact ⟨⟨_, _⟩, (wd_merge _ _ _ _ _).trans (wd_merge _ _ _ _ _)⟩ | exact cl2 _ _ _ _ _ _, ?_⟩
            refine loudU_one [false, false, false, false, false, false, false, false, false, false, false, true] rfl ?_
            simp only [sel_t, sel_f, sel_n]
            go_wp2
            refine ⟨by first | exact ⟨⟨_, _⟩, rfl⟩ | exact ⟨⟨_, _⟩, wd_merge _ _ _ _ _⟩ | exact ⟨⟨_, _⟩, (wd_merge _ _ _ _ _).trans (wd_merge _ _ _ _ _)⟩ | exact cl2 _ _ _ _ _ _, ?_⟩
            refine loudU_done ?_
            go_wp2
            go_roundw
            case rel =>
              refine ⟨i + 1, ⟨_, _⟩, a9, c9, by omega, by omega, by go_num, Lib.hid ?_, wd_merge3 _ _ _ _ _ _⟩
              first | exact rowsA HV9.out HF9.out rfl rfl | exact rowsX HV9.out HF9.out rfl
            case measure => simp [intOf]; omega
          refine loudU_one [false, false, false, false, false, false, false, false, false, true] rfl ?_
          simp only [sel_t, sel_f, sel_n]
          go_wp2
          refine ⟨by first | exact ⟨⟨_, _⟩, rfl⟩ | exact ⟨⟨_, _⟩, wd_merge _ _ _ _ _⟩ | exact ⟨⟨_, _⟩, (wd_merge _ _ _ _ _).trans (wd_merge _ _ _ _ _)⟩ | exact cl2 _ _ _ _ _ _, ?_⟩
          refine loudU_one [false, false, false, false, false, false, true] rfl ?_
          simp only [sel_t, sel_f, sel_n]
          go_wp2
          refine ⟨by first | exact ⟨⟨_, _⟩, rfl⟩ | exact ⟨⟨_, _⟩, wd_merge _ _ _ _ _⟩ | exact ⟨⟨_, _⟩, (wd_merge _ _ _ _ _).trans (wd_merge _ _ _ _ _)⟩ | exact cl2 _ _ _ _ _ _, ?_⟩
          refine loudU_alt ?_ ?_
          focus
            refine loudU_one [false, false, false, false, false, false, false, true] rfl ?_
            simp only [sel_t, sel_f, sel_n]
            go_wp2
            refine ⟨by first | exact ⟨⟨_, _⟩, rfl⟩ | exact ⟨⟨_, _⟩, wd_merge _ _ _ _ _⟩ | exact ⟨⟨_, _⟩, (wd_merge _ _ _ _ _).trans (wd_merge _ _ _ _ _)⟩ | exact cl2 _ _ _ _ _ _, ?_⟩
            refine loudU_alt ?_ ?_
            focus
              refine loudU_one [false, false, false, false, false, false, false, false, true] rfl ?_
              simp only [sel_t, sel_f, sel_n]
              go_wp2
              refine ⟨by first | exact ⟨⟨_, _⟩, rfl⟩ | exact ⟨⟨_, _⟩, wd_merge _ _ _ _ _⟩ | exact ⟨⟨_, _⟩, (wd_merge _ _ _ _ _).trans (wd_merge _ _ _ _ _)⟩ | exact cl2 _ _ _ _ _ _, ?_⟩
              refine loudU_one [false, false, false, false, false, false, false, false, false, false, true] rfl ?_
              simp only [sel_t, sel_f, sel_n]
              go_wp2
              refine ⟨by first | exact ⟨⟨_, _⟩, rfl⟩ | exact ⟨⟨_, _⟩, wd_merge _ _ _ _ _⟩ | exact ⟨⟨_, _⟩, (wd_merge _ _ _ _ _).trans (wd_merge _ _ _ _ _)⟩ | exact cl2 _ _ _ _ _ _, ?_⟩
              refine loudU_one [false, false, false, false, false, false, false, false, false, false, false, true] rfl ?_
              simp only [sel_t, sel_f, sel_n]
              go_wp2
              refine ⟨by first | exact ⟨⟨_, _⟩, rfl⟩ | exact ⟨⟨_, _⟩, wd_merge _ _ _ _ _⟩ | exact ⟨⟨_, _⟩, (wd_merge _ _ _ _ _).trans (wd_merge _ _ _ _ _)⟩ | exact cl2 _ _ _ _ _ _, ?_⟩
              refine loudU_done ?_
              go_wp2
              go_roundw
              case rel =>
                refine ⟨i + 1, ⟨_, _⟩, a9, c9, by omega, by omega, by go_num, Lib.hid ?_, wd_merge3 _ _ _ _ _ _⟩
                first | exact rowsA HV9.out HF9.out rfl rfl | exact rowsX HV9.out HF9.out rfl
              case measure => simp [intOf]; omega
            refine loudU_one [false, false, false, false, false, false, false, false, false, false, true] rfl ?_
            simp only [sel_t, sel_f, sel_n]
            go_wp2
            refine ⟨by first | exact ⟨⟨_, _⟩, rfl⟩ | exact ⟨⟨_, _⟩, wd_merge _ _ _ _ _⟩ | exact ⟨⟨_, _⟩, (wd_merge _ _ _ _ _).trans (wd_merge _ _ _ _ _)⟩ | exact cl2 _ _ _ _ _ _, ?_⟩
            refine loudU_one [false, false, false, false, false, false, false, false, true] rfl ?_
            simp only [sel_t, sel_f, sel_n]
            go_wp2
            refine ⟨by first | exact ⟨⟨_, _⟩, rfl⟩ | exact ⟨⟨_, _⟩, wd_merge _ _ _ _ _⟩ | exact ⟨⟨_, _⟩, (wd_merge _ _ _ _ _).trans (wd_merge _ _ _ _ _)⟩ | exact cl2 _ _ _ _ _ _, ?_⟩
            refine loudU_one [false, false, false, false, false, false, false, false, false, false, false, true] rfl ?_
            simp only [sel_t, sel_f, sel_n]
            go_wp2
            refine ⟨by first | exact ⟨⟨_, _⟩, rfl⟩ | exact ⟨⟨_, _⟩, wd_merge _ _ _ _ _⟩ | exact ⟨⟨_, _⟩, (wd_merge _ _ _ _ _).trans (wd_merge _ _ _ _ _)⟩ | exact cl2 _ _ _ _ _ _, ?_⟩
            refine loudU_done ?_
            go_wp2
            go_roundw
            case rel =>
              refine ⟨i + 1, ⟨_, _⟩, a9, c9, by omega, by omega, by go_num, Lib.hid ?_, wd_merge3 _ _ _ _ _ _⟩
              first | exact rowsA HV9.out HF9.out rfl rfl | exact rowsX HV9.out HF9.out rfl
            case measure => simp [intOf]; omega
          refine loudU_one [false, false, false, false, false, false, false, false, true] rfl ?_
          simp only [sel_t, sel_f, sel_n]
          go_wp2
          refine ⟨by first | exact ⟨⟨_, _⟩, rfl⟩ | exact ⟨⟨_, _⟩, wd_merge _ _ _ _ _⟩ | exact ⟨⟨_, _⟩, (wd_merge _ _ _ _ _).trans (wd_merge _ _ _ _ _)⟩ | exact cl2 _ _ _ _ _ _, ?_⟩
          refine loudU_one [false, false, false, false, false, false, false, true] rfl ?_
          simp only [sel_t, sel_f, sel_n]
          go_wp2
          refine ⟨by first | exact ⟨⟨_, _⟩, rfl⟩ | exact ⟨⟨_, _⟩, wd_merge _ _ _ _ _⟩ | exact ⟨⟨_, _⟩, (wd_merge _ _ _ _ _).trans (wd_merge _ _ _ _ _)⟩ | exact cl2 _ _ _ _ _ _, ?_⟩
          refine loudU_one [false, false, false, false, false, false, false, false, false, false, true] rfl ?_
          simp only [sel_t, sel_f, sel_n]
          go_wp2
          refine ⟨by first | exact ⟨⟨_, _⟩, rfl⟩ | exact ⟨⟨_, _⟩, wd_merge _ _ _ _ _⟩ | exact ⟨⟨_, _⟩, (wd_merge _ _ _ _ _).trans (wd_merge _ _ _ _ _)⟩ | exact cl2 _ _ _ _ _ _, ?_⟩
          refine loudU_one [false, false, false, false, false, false, false, false, false, false, false, true] rfl ?_
          simp only [sel_t, sel_f, sel_n]
          go_wp2
          refine ⟨by first | exact ⟨⟨_, _⟩, rfl⟩ | exact ⟨⟨_, _⟩, wd_merge _ _ _ _ _⟩ | exact ⟨⟨_, _⟩, (wd_merge _ _ _ _ _).trans (wd_merge _ _ _ _ _)⟩ | exact cl2 _ _ _ _ _ _, ?_⟩
          refine loudU_done ?_
          go_wp2
          go_roundw
          case rel =>
            refine ⟨i + 1, ⟨_, _⟩, a9, c9, by omega, by omega, by go_num, Lib.hid ?_, wd_merge3 _ _ _ _ _ _⟩
            first | exact rowsA HV9.out HF9.out rfl rfl | exact rowsX HV9.out HF9.out rfl
          case measure => simp [intOf]; omega
        refine loudU_one [false, false, false, false, false, false, false, false, false, true] rfl ?_
        simp only [sel_t, sel_f, sel_n]
        go_wp2
        refine ⟨by first | exact ⟨⟨_, _⟩, rfl⟩ | exact ⟨⟨_, _⟩, wd_merge _ _ _ _ _⟩ | exact ⟨⟨_, _⟩, (wd_merge _ _ _ _ _).trans (wd_merge _ _ _ _ _)⟩ | exact cl2 _ _ _ _ _ _, ?_⟩
        refine loudU_one [false, false, false, false, false, true] rfl ?_
        simp only [sel_t, sel_f, sel_n]
        go_wp2_with (first | (go_at_call 29; ((with_reducible refine (HAP.out _ _ _ (HM0.out.trans (more_wd _ _ _)) (HI.out.more (by repeat (first | exact more_same _ _ _ _ | apply more_cons)))).mono ?_); rintro e w2 hq; obtain ⟨a9, c9, rfl, hv, ⟨x9, n9, rfl⟩, hf9⟩ := hq.out; rw [wd_plus] at hv; have HV9 := Lib.hid hv; have HF9 := Lib.hid hf9; clear hv hq hf9)))
        refine ⟨by first | exact ⟨⟨_, _⟩, rfl⟩ | exact ⟨⟨_, _⟩, wd_merge _ _ _ _ _⟩ | exact ⟨⟨_, _⟩, (wd_merge _ _ _ _ _).trans (wd_merge _ _ _ _ _)⟩ | exact cl2 _ _ _ _ _ _, ?_⟩
        refine loudU_one [false, false, false, false, false, false, true] rfl ?_
        simp only [sel_t, sel_f, sel_n]
        go_wp2
        refine ⟨by first | exact ⟨⟨_, _⟩, rfl⟩ | exact ⟨⟨_, _⟩, wd_merge _ _ _ _ _⟩ | exact ⟨⟨_, _⟩, (wd_merge _ _ _ _ _).trans (wd_merge _ _ _ _ _)⟩ | exact cl2 _ _ _ _ _ _, ?_⟩
        refine loudU_alt ?_ ?_
        focus
          refine loudU_one [false, false, false, false, false, false, false, true] rfl ?_
          simp only [sel_t, sel_f, sel_n]
          go_wp2
          refine ⟨by first | exact ⟨⟨_, _⟩, rfl⟩ | exact ⟨⟨_, _⟩, wd_merge _ _ _ _ _⟩ | exact ⟨⟨_, _⟩, (wd_merge _ _ _ _ _).trans (wd_merge _ _ _ _ _)⟩ | exact cl2 _ _ _ _ _ _, ?_⟩
          refine loudU_alt ?_ ?_
          focus
            refine loudU_one [false, false, false, false, false, false, false, false, true] rfl ?_
            simp only [sel_t, sel_f, sel_n]
            go_wp2
            refine ⟨by first | exact ⟨⟨_, _⟩, rfl⟩ | exact ⟨⟨_, _⟩, wd_merge _ _ _ _ _⟩ | exact ⟨⟨_, _⟩, (wd_merge _ _ _ _ _).trans (wd_merge _ _ _ _ _)⟩ | exact cl2 _ _ _ _ _ _, ?_⟩
            refine loudU_one [false, false, false, false, false, false, false, false, false, false, true] rfl ?_
            simp only [sel_t, sel_f, sel_n]
            go_wp2
            refine ⟨by first | exact ⟨⟨_, _⟩, rfl⟩ | exact ⟨⟨_, _⟩, wd_merge _ _ _ _ _⟩ | exact ⟨⟨_, _⟩, (wd_merge _ _ _ _ _).trans (wd_merge _ _ _ _ _)⟩ | exact cl2 _ _ _ _ _ _, ?_⟩
            refine loudU_one [false, false, false, false, false, false, false, false, false, false, false, true] rfl ?_
            simp only [sel_t, sel_f, sel_n]
            go_wp2
            refine ⟨by first | exact ⟨⟨_, _⟩, rfl⟩ | exact ⟨⟨_, _⟩, wd_merge _ _ _ _ _⟩ | exact ⟨⟨_, _⟩, (wd_merge _ _ _ _ _).trans (wd_merge _ _ _ _ _)⟩ | exact cl2 _ _ _ _ _ _, ?_⟩
            refine loudU_done ?_
            go_wp2
            go_roundw
            case rel =>
              refine ⟨i + 1, ⟨_, _⟩, a9, c9, by omega, by omega, by go_num, Lib.hid ?_, wd_merge3 _ _ _ _ _ _⟩
              first | exact rowsA HV9.out HF9.out rfl rfl | exact rowsX HV9.out HF9.out rfl
            case measure => simp [intOf]; omega
          refine loudU_one [false, false, false, false, false, false, false, false, false, false, true] rfl ?_
          simp only [sel_t, sel_f, sel_n]
          go_wp2
          refine ⟨by first | exact ⟨⟨_, _⟩, rfl⟩ | exact ⟨⟨_, _⟩, wd_merge _ _ _ _ _⟩ | exact ⟨⟨_, _⟩, (wd_merge _ _ _ _ _).trans (wd_merge _ _ _ _ _)⟩ | exact cl2 _ _ _ _ _ _, ?_⟩
          refine loudU_one [false, false, false, false, false, false, false, false, true] rfl ?_
          simp only [sel_t, sel_f, sel_n]
          go_wp2
          refine ⟨by first | exact ⟨⟨_, _⟩, rfl⟩ | exact ⟨⟨_, _⟩, wd_merge _ _ _ _ _⟩ | exact ⟨⟨_, _⟩, (wd_merge _ _ _ _ _).trans (wd_merge _ _ _ _ _)⟩ | exact cl2 _ _ _ _ _ _, ?_⟩
          refine loudU_one [false, false, false, false, false, false, false, false, false, false, false, true] rfl ?_
          simp only [sel_t, sel_f, sel_n]
          go_wp2
          refine ⟨by first | exact ⟨⟨_, _⟩, rfl⟩ | exact ⟨⟨_, _⟩, wd_merge _ _ _ _ _⟩ | exact ⟨⟨_, _⟩, (wd_merge _ _ _ _ _).trans (wd_merge _ _ _ _ _)⟩ | exact cl2 _ _ _ _ _ _, ?_⟩
          refine loudU_done ?_
          go_wp2
          go_roundw
          case rel =>
            refine ⟨i + 1, ⟨_, _⟩, a9, c9, by omega, by omega, by go_num, Lib.hid ?_, wd_merge3 _ _ _ _ _ _⟩
            first | exact rowsA HV9.out HF9.out rfl rfl | exact rowsX HV9.out HF9.out rfl
          case measure => simp [intOf]; omega
        refine loudU_one [false, false, false, false, false, false, false, false, true] rfl ?_
        simp only [sel_t, sel_f, sel_n]
        go_wp2
        refine ⟨by first | exact ⟨⟨_, _⟩, rfl⟩ | exact ⟨⟨_, _⟩, wd_merge _ _ _ _ _⟩ | exact ⟨⟨_, _⟩, (wd_merge _ _ _ _ _).trans (wd_merge _ _ _ _ _)⟩ | exact cl2 _ _ _ _ _ _, ?_⟩
        refine loudU_one [false, false, false, false, false, false, false, true] rfl ?_
        simp only [sel_t, sel_f, sel_n]
        go_wp2
        refine ⟨by first | exact ⟨⟨_, _⟩, rfl⟩ | exact ⟨⟨_, _⟩, wd_merge _ _ _ _ _⟩ | exact ⟨⟨_, _⟩, (wd_merge _ _ _ _ _).trans (wd_merge _ _ _ _ _)⟩ | exact cl2 _ _ _ _ _ _, ?_⟩
        refine loudU_one [false, false, false, false, false, false, false, false, false, false, true] rfl ?_
        simp only [sel_t, sel_f, sel_n]
        go_wp2
        refine ⟨by first | exact ⟨⟨_, _⟩, rfl⟩ | exact ⟨⟨_, _⟩, wd_merge _ _ _ _ _⟩ | exact ⟨⟨_, _⟩, (wd_merge _ _ _ _ _).trans (wd_merge _ _ _ _ _)⟩ | exact cl2 _ _ _ _ _ _, ?_⟩
        refine loudU_one [false, false, false, false, false, false, false, false, false, false, false, true] rfl ?_
        simp only [sel_t, sel_f, sel_n]
        go_wp2
        refine ⟨by first | exact ⟨⟨_, _⟩, rfl⟩ | exact ⟨⟨_, _⟩, wd_merge _ _ _ _ _⟩ | exact ⟨⟨_, _⟩, (wd_merge _ _ _ _ _).trans (wd_merge _ _ _ _ _)⟩ | exact cl2 _ _ _ _ _ _, ?_⟩
        refine loudU_done ?_
        go_wp2
        go_roundw
        case rel =>
          refine ⟨i + 1, ⟨_, _⟩, a9, c9, by omega, by omega, by go_num, Lib.hid ?_, wd_merge3 _ _ _ _ _ _⟩
          first | exact rowsA HV9.out HF9.out rfl rfl | exact rowsX HV9.out HF9.out rfl
        case measure => simp [intOf]; omega
        -- DONE
      · obtain rfl : i = l.length := by omega
        have HM1 : Hid (More w0 (wd w0 [m.e, #[.cells #[.int .i64 (upV l l.length).next, .slice a (upV l l.length).rows.length cc] 32]] m.n)) := Lib.hid (more_wd _ _ _)
        have hw0' := mid_cell' w0 #[.int .i64 (upV l l.length).next, .slice a (upV l l.length).rows.length cc] 32 [] m.n 0 [m.e]
        have hw1' := mid_cell' w0 #[.int .i64 (upV l l.length).next, .slice a (upV l l.length).rows.length cc] 32 [] m.n 1 [m.e]
        simp only [List.cons_append, List.nil_append] at hw0' hw1'
        generalize hqw : sz w0.heap.size (shape []) = qw at hw0' hw1'
        have hqw' : sz w0.heap.size [] = qw := hqw
        rw [hqw']
        obtain ⟨W1, hW1⟩ : ∃ W1, wd w0 [m.e, #[.cells #[.int .i64 (upV l l.length).next, .slice a (upV l l.length).rows.length cc] 32]] m.n = W1 := ⟨_, rfl⟩
        rw [hW1] at HI HM1 hw0' hw1' ⊢
        have HM2 : Hid (More w W1) := Lib.hid (HM0.out.trans HM1.out)
        have da0 := cell_more HM1.out ha0
        have da1 := cell_more HM1.out ha1
        have dla := cell_lt' da0
        have dv0 := cell_more HM1.out hv0
        have dv1 := cell_more HM1.out hv1
        have dlv := cell_lt' dv0
        have dlw := cell_lt' hw0'
        have hw2 : W1.cell? ⟨qw, 0, none⟩ = some (.int .i64 (upV l l.length).next) := hw0'
        have hw3 : W1.cell? ⟨qw, 1, none⟩ = some (.slice a (upV l l.length).rows.length cc) := hw1'
        have HA1 : Hid (VRowsAt W1 aa (upV l l.length).rows) := Lib.hid (HA0.out.more HM1.out)
        have HV1 : Hid (VRowsAt W1 av (upV l k).rows) := Lib.hid (HV0.out.more HM1.out)
        rw [← wd_nil W1]
        clear ha0 ha1 hla hv0 hv1 hlv hw0' hw1' hW1 hqw hqw' HA0 HV0 HW0 HM0 HM1
        obtain ⟨nx, hnx⟩ : ∃ nx, (upV l k).next = nx := ⟨_, rfl⟩
        obtain ⟨KS, hKS⟩ : ∃ KS, S.length = KS := ⟨_, rfl⟩
        have HNX := Lib.hid hnx
        have HKS := Lib.hid hKS
        have HSI := Lib.hid HG.out.since
        rw [hnx, hKS] at HSI
        rw [hnx] at dv0 ⊢
        have hKs := HG.out.small.2
        rw [hKS] at hKs
        clear hnx hKS
        go_wp2_with (first | (go_at_call 17; ((with_reducible refine (HSI.out _ _ _ (HA1.out.more (more_wd _ _ _))).mono ?_); rintro e w2 hq; obtain ⟨as9, cs9, rfl, hv, y1, m1, rfl⟩ := hq.out; rw [wd_plus] at hv; have HS9 := Lib.hid hv; clear hv hq)))
        obtain ⟨W2, hW2⟩ : ∃ W2, wd W1 [y1] m1 = W2 := ⟨_, rfl⟩
        have HM3 : Hid (More W1 W2) := Lib.hid (hW2 ▸ more_wd _ _ _)
        have ea0 := cell_more HM3.out da0
        have ea1 := cell_more HM3.out da1
        have ela := cell_lt' ea0
        have ev0 := cell_more HM3.out dv0
        have ev1 := cell_more HM3.out dv1
        have elv := cell_lt' ev0
        have ew0 := cell_more HM3.out hw2
        have ew1 := cell_more HM3.out hw3
        have elw := cell_lt' ew0
        have HM4 : Hid (More w W2) := Lib.hid (HM2.out.trans HM3.out)
        have HA2 : Hid (VRowsAt W2 aa (upV l l.length).rows) := Lib.hid (HA1.out.more HM3.out)
        have HV2 : Hid (VRowsAt W2 av (upV l k).rows) := Lib.hid (HV1.out.more HM3.out)
        have HI2 : Hid (VRowsAt W2 a (upV l l.length).rows) := Lib.hid (HI.out.more HM3.out)
        rw [hW2] at HS9
        rw [hW2, ← wd_nil W2]
        clear da0 da1 dla dv0 dv1 dlv dlw hw2 hw3 HM2 HM3 HA1 HV1 HI hW2 HSI
        go_loopw [19] (fun s19 wr => ∃ (i : Nat) (m2 : Ext), s19 = .int .i64 i ∧ i ≤ KS ∧ wr = wd W2 [m2.e] m2.n) (fun s19 _ => KS - (intOf s19).toNat)
        case atStart => exact ⟨0, ⟨#[], W2.drawn⟩, rfl, Nat.zero_le _, (wd_empty _ _ _).symm⟩
        case round =>
          obtain ⟨i, m2, rfl, hiK, rfl⟩ := hrel
          by_cases hlt2 : i < KS
          · obtain ⟨x, hx⟩ : ∃ x, S[i]? = some x := ⟨_, List.getElem?_eq_getElem (by rw [HKS.out]; exact hlt2)⟩
            have hxo : ¬ x.offset < nx := by
              have := HG.out.late.2.1 x (List.mem_of_getElem? hx)
              rw [HNX.out] at this; omega
            have hxb : decide (x.offset < nx) = false := decide_eq_false hxo
            have HX := Lib.hid hx
            obtain ⟨bb, off, rfl, hb, c0, c1, c2, c3⟩ := vrows_at HS9.out i x hx
            by_cases hi0 : 0 < i
            · have hqb : decide (0 < i) = true := decide_eq_true hi0
              obtain ⟨r, hr0⟩ : ∃ r, i - 1 = r := ⟨_, rfl⟩
              have hrz : (i : Int) - 1 = (r : Int) := by omega
              have hrl : r < KS := by omega
              obtain ⟨y, hy⟩ : ∃ y, S[r]? = some y := ⟨_, List.getElem?_eq_getElem (by rw [HKS.out]; exact hrl)⟩
              have hyo : ¬ x.offset < y.offset := by
                have := take_le HG.out.late.1 hx y (by
                  refine List.mem_of_getElem? (i := r) ?_
                  rw [List.getElem?_take, if_pos (by omega)]; exact hy)
                omega
              obtain ⟨bb', off', hbo, hb', p0, p1, p2, p3⟩ := vrows_at HS9.out r y hy
              cases hbo
              obtain ⟨xk, xv, xo, xt⟩ := x
              obtain ⟨yk, yv, yo, yt⟩ := y
              dsimp only at c0 c1 c2 c3 p0 p1 p2 p3 hxo hxb hyo
              have hyb : decide (xo < yo) = false := decide_eq_false hyo
              clear hx hy hr0
              go_wp2
              refine wp_region_wd (by kernel_rfl) (by kernel_rfl) ?_
              repeat (go_big_quiet_step ((fail)))
              refine wpQuiet_nil ?_
              rintro _ ⟨mx, rfl⟩
              go_wp2
              go_roundw
              case rel => exact ⟨i + 1, ⟨_, _⟩, by go_num, by omega, by rw [wd_merge]⟩
              case measure => simp [intOf]; omega
            · have hqb : decide (0 < i) = false := decide_eq_false hi0
              obtain ⟨xk, xv, xo, xt⟩ := x
              dsimp only at c0 c1 c2 c3 hxo hxb
              clear hx
              go_wp2
              refine wp_region_wd (by kernel_rfl) (by kernel_rfl) ?_
              repeat (go_big_quiet_step ((fail)))
              refine wpQuiet_nil ?_
              rintro _ ⟨mx, rfl⟩
              go_wp2
              go_roundw
              case rel => exact ⟨i + 1, ⟨_, _⟩, by go_num, by omega, by rw [wd_merge]⟩
              case measure => simp [intOf]; omega
          · have hiKS : i = KS := by omega
            go_wp2
            clear hlt2 hiK
            have HFA := Lib.hid (fun (t : Nat) x (hx : (upV l l.length).rows[t]? = some x) => filter_snoc (fun x => decide (x.offset < nx)) (upV l l.length).rows t x hx)
            have hNA := HG.out.small.1
            go_loopw [20, 21] (fun s20 s21 wr => ∃ (i e : Nat) (m3 : Ext), s20 = .int .i64 e ∧ s21 = .int .i64 i ∧ i ≤ (upV l l.length).rows.length ∧ e ≤ i ∧ Hid ((((upV l l.length).rows.take i).filter (fun x => decide (x.offset < nx))).length = e) ∧ wr = wd W2 [m3.e] m3.n) (fun _ s21 _ => (upV l l.length).rows.length - (intOf s21).toNat)
            case atStart => exact ⟨0, 0, m2, rfl, rfl, Nat.zero_le _, Nat.le_refl _, Lib.hid (by simp), rfl⟩
            case round =>
              obtain ⟨i, e, m3, rfl, rfl, hiA, hei, HE, rfl⟩ := hrel
              by_cases hlt3 : i < (upV l l.length).rows.length
              · obtain ⟨x, hx⟩ : ∃ x, (upV l l.length).rows[i]? = some x := ⟨_, List.getElem?_eq_getElem hlt3⟩
                have HF0 := Lib.hid (HFA.out i x hx)
                have hmem := List.mem_of_getElem? hx
                have HG0 := Lib.hid (HG.out.get x hmem)
                rw [HNX.out] at HG0
                obtain ⟨bb, off, rfl, hb, c0, c1, c2, c3⟩ := vrows_at HA2.out i x hx
                obtain ⟨xk, xv, xo, xt⟩ := x
                dsimp only at c0 c1 c2 c3 HG0 HF0
                have QN : ∀ W, (binOp .neq 34 (.agg #[.string (str xk), .string (str xv), .int .i64 xo, .int .i64 xt]) (.agg #[.string (str xk), .string (str xv), .int .i64 xo, .int .i64 xt])).run Try.prog W = .ok (.bool false) W := fun W => by rw [prow_neq, decide_eq_true rfl]; rfl
                clear hx hmem
                by_cases hof : xo < nx
                · have HGT := Lib.hid (HG0.out hof)
                  have HF1 : Hid ((((upV l l.length).rows.take (i + 1)).filter (fun x => decide (x.offset < nx))).length = (((upV l l.length).rows.take i).filter (fun x => decide (x.offset < nx))).length + 1) := Lib.hid (by rw [HF0.out]; simp [hof])
                  clear HF0 HG0
                  have hob : decide (xo < nx) = true := decide_eq_true hof
                  go_wp2
                  refine wp_region_new [0, 1, 2, 3, 4, 5, 6, 7, 8, 9, 10] 11 22 [12, 13] [true, true, true, true, true, true, true, true, true, true, true] [false, false, false, false, false, false, false, false, false, false, false, false, true, true] (fun b => .pointer (some ⟨b, 0, none⟩)) (.cells #[.string ⟨#[]⟩, .string ⟨#[]⟩, .int .i64 0, .int .i64 0] 34) ⟨rfl, rfl⟩ (by kernel_rfl) (by kernel_rfl) (fun _ _ d _ _ h => by cases d <;> exact h) ⟨_, _, _, _, rfl⟩ ?_
                  apply Exists.intro
                  refine ⟨?_, ?_, ?_⟩
                  · intro E
                    simp only [sel_t, sel_f, sel_n]
                    repeat (go_big_quiet_step ((first | (go_at_call 11; with_reducible exact Calls.wd_of (HGT.out _ _ _ (HV2.out.more (more_wd _ _ _)))))))
                    exact wpQuiet_nil rfl
                  · intro o ho w0; obtain rfl := Option.some.inj ho; go_simp
                  intro e0 m0
                  simp only [sel_t, sel_f, sel_n, put_lit, List.set_cons_succ, List.set_cons_zero, shape_cons, shape_nil]
                  go_wp2
                  refine wp_region_wd (by kernel_rfl) (by kernel_rfl) ?_
                  repeat (go_big_quiet_step ((fail)))
                  refine wpQuiet_nil ?_
                  rintro _ ⟨mx, rfl⟩
                  go_wp2
                  go_roundw
                  case rel => exact ⟨i + 1, e + 1, ⟨_, _⟩, by go_num, by go_num, by omega, by omega, Lib.hid (by rw [HF1.out, HE.out]), by first | (rw [wd_merge, wd_merge, wd_merge, wd_merge, wd_merge]) | (rw [wd_merge, wd_merge, wd_merge, wd_merge]) | (rw [wd_merge, wd_merge, wd_merge]) | (rw [wd_merge, wd_merge]) | (rw [wd_merge])⟩
                  case measure => simp [intOf]; omega
                · have HF1 : Hid ((((upV l l.length).rows.take (i + 1)).filter (fun x => decide (x.offset < nx))).length = (((upV l l.length).rows.take i).filter (fun x => decide (x.offset < nx))).length) := Lib.hid (by rw [HF0.out]; simp [hof])
                  have hob : decide (xo < nx) = false := decide_eq_false hof
                  go_wp2
                  go_roundw
                  case rel => exact ⟨i + 1, e, ⟨_, _⟩, rfl, by go_num, by omega, by omega, Lib.hid (by rw [HF1.out, HE.out]), by first | rfl | (rw [wd_merge])⟩
                  case measure => simp [intOf]; omega
              · have hiN : i = (upV l l.length).rows.length := by omega
                rw [hiN] at HE
                have hsum : e + KS = (upV l l.length).rows.length := by
                  have := HG.out.late.2.2
                  rw [HNX.out, HKS.out] at this
                  have h2 := HE.out
                  rw [List.take_of_length_le (Nat.le_refl _)] at h2
                  omega
                have hsz : (e : Int) + (KS : Int) = ((upV l l.length).rows.length : Int) := by omega
                go_wp2_with (first
                  | (go_at_call 19; ((with_reducible refine (HG.out.same _ l.length _ _ _ _ (Nat.le_refl _) (HA2.out.more (more_wd _ _ _)) (HI2.out.more (more_wd _ _ _))).mono ?_); rintro e9 w9 ⟨rfl, x9, n9, rfl⟩))
                  | (go_at_call 9; ((with_reducible refine (HAW.out _).mono ?_); rintro e w1 ⟨rfl, x1, n1, rfl⟩)))
                go_ret
                exact ⟨rfl, HM4.out.trans (more_wd _ _ _)⟩
end Go.Proofs.Ytlanghikmccmbaa
