/- ViewLast: the walk. -/
import Derived.Test.YtlanghikmccmbaaHC
import Derived.Test.YtlanghikmccmbaaMF
namespace Go.Proofs.Ytlanghikmccmbaa
open Go.ChangeShapes Go.WideShapes Go.ChangeAt Go.RowKit Go.Maps
set_option linter.unusedVariables false
set_option linter.unusedSimpArgs false
theorem cls_more {w W : World} (h : More w W) : ∃ m : Ext, W = wd w [m.e] m.n := by
  obtain ⟨y, z, rfl⟩ := h
  exact ⟨⟨y, z⟩, rfl⟩
abbrev qrblk (rd rt : Int) (rk : Bool) (rkey : List UInt8) (rdead : Bool) (rval : List UInt8) : Array Obj := #[.cells #[.int .i64 rd, .int .i64 rt, .bool rk, .string (str rkey), .bool rdead, .string (str rval)] 73]
theorem tell_yes {es a b : List (Int × Rec)} {e : Int × Rec} {n : Nat} (h : ((a ++ b).filter (tellB es)).length = n) (he : tellB es e = true) : ((a ++ (b ++ [e])).filter (tellB es)).length = n + 1 := by
  rw [← List.append_assoc, List.filter_append, List.length_append, h]
  simp [he]
theorem tell_no {es a b : List (Int × Rec)} {e : Int × Rec} {n : Nat} (h : ((a ++ b).filter (tellB es)).length = n) (he : tellB es e = false) : ((a ++ (b ++ [e])).filter (tellB es)).length = n := by
  rw [← List.append_assoc, List.filter_append, List.length_append, h]
  simp [he]
theorem cls_ex {w W : World} (h : More w W) (L : List (Array Obj)) (n : Nat) : ∃ m : Ext, wd W L n = wd w [m.e] m.n := cls_more (h.trans (more_wd _ _ _))
set_option maxRecDepth 100000 in
set_option maxHeartbeats 8000000 in
theorem lastlaw_any (ad : Option Addr) (cap : Nat) (l : List Btm) (gr : Int) (w : World) (hB : BatsAt w ad l) (hf : ∀ x ∈ l, x.b.recs.length ≤ maxLen) (hlm : l.length ≤ maxLen) :
    Calls Try.prog 6 #[.slice ad l.length cap, .int .i64 gr] w fun e w' => e = .returned (.bool true) ∧ More w w' := by
  have HAW := Lib.hid awake36
  have HLL := Lib.hid (fun W hm => light_bats ad cap l 12 W (hB.more (w' := W) hm) hf hlm (by decide))
  have HRI := Lib.hid (fun W hm => rising_any ad cap l W (hB.more (w' := W) hm) hf hlm)
  obtain ⟨R, hR⟩ : ∃ R, risesB 0 (l.map Btm.b) = R := ⟨_, rfl⟩
  rw [hR] at HRI
  have HLO := Lib.hid (fun hr h12 => last_ok ad cap l gr w hB hf h12 hr)
  have HB := Lib.hid hB
  have HF := Lib.hid hf
  rw [hR] at HLO
  unfold maxLen at hlm
  clear hR hf hB
  cases R with
  | false =>
    refine calls_wd ?_
    go_enter Try.func6, Try.ntmps6
    go_wp2_with (first
      | (go_at_call 26; ((with_reducible refine (HLL.out _ (more_wd _ _ _)).mono ?_); rintro e w2 hbr; obtain ⟨bl, rfl, ⟨x7, n7, rfl⟩, -⟩ := hbr.out; clear hbr; cases bl))
      | (go_at_call 27; ((with_reducible refine (HRI.out _ (more_wd _ _ _)).mono ?_); rintro e w1 ⟨rfl, x1, n1, rfl⟩))
      | (go_at_call 9; ((with_reducible refine (HAW.out _).mono ?_); rintro e w1 ⟨rfl, x1, n1, rfl⟩)))
    all_goals (go_ret; exact ⟨rfl, more_wd _ _ _⟩)
  | true =>
    refine calls_wd ?_
    go_enter Try.func6, Try.ntmps6
    go_wp2_with (first
      | (go_at_call 26; ((with_reducible refine (HLL.out _ (more_wd _ _ _)).mono ?_); rintro e w2 hbr; obtain ⟨bl, rfl, ⟨x7, n7, rfl⟩, hy⟩ := hbr.out; clear hbr; cases bl <;> (try have h12 := hy rfl)))
      | (go_at_call 27; ((with_reducible refine (HRI.out _ (more_wd _ _ _)).mono ?_); rintro e w1 ⟨rfl, x1, n1, rfl⟩))
      | (go_at_call 9; ((with_reducible refine (HAW.out _).mono ?_); rintro e w1 ⟨rfl, x1, n1, rfl⟩)))
    · go_ret
      exact ⟨rfl, more_wd _ _ _⟩
    obtain ⟨V, nx, nu, hLO⟩ := HLO.out (by first | rfl | trivial) (by omega)
    obtain ⟨L, hL⟩ : ∃ L, l.map Btm.b = L := ⟨_, rfl⟩
    have HL := Lib.hid hL
    rw [hL] at hLO
    obtain ⟨es, hes⟩ : ∃ es, evs L = es := ⟨_, rfl⟩
    have HES := Lib.hid hes
    rw [hes] at hLO
    have HG := Lib.hid hLO
    have hVl := hLO.small
    have HBU := Lib.hid hLO.build
    have HCN := Lib.hid hLO.clean
    clear hLO hy HLL HRI HLO hL hes
    try dsimp only at HBU
    go_wp2_with (first
      | (go_at_call 28; ((with_reducible refine (HBU.out _ (more_wd _ _ _)).mono ?_); rintro e w2 hq; obtain ⟨av, cv, rfl, hv, x6, n6, rfl⟩ := hq.out; rw [wd_plus] at hv; have HV : Hid (VRowsAt _ av V) := Lib.hid hv; clear hv hq HBU))
      | (go_at_call 30; ((with_reducible refine (HCN.out _ (more_wd _ _ _)).mono ?_); rintro e w2 hq; obtain ⟨ac, nc, cc, rfl, ⟨x5, n5, rfl⟩, hb5⟩ := hq.out; rw [wd_plus] at hb5; have HB5 := Lib.hid hb5; clear hb5 hq HCN))
      | (go_at_call 28; ((with_reducible refine (HB5.out _ (more_same _ _ _ _)).mono ?_); rintro e w2 hq; obtain ⟨aw, cw, rfl, hv, x4, n4, rfl⟩ := hq.out; rw [wd_plus] at hv; have HW : Hid (VRowsAt _ aw V) := Lib.hid hv; clear hv hq)))
    generalize hqw : sz w.heap.size [x4.size, x5.size, 1, x6.size, x1.size, x7.size] = qw
    generalize hqv : sz w.heap.size [x6.size, x1.size, x7.size] = qv
    obtain ⟨w0, hw0⟩ : ∃ w0, wd w [#[Obj.cells #[Value.int IntKind.i64 nu, Value.slice aw V.length cw] 32], x4, x5, #[Obj.cells #[Value.int IntKind.i64 nx, Value.slice av V.length cv] 32], x6, x1, x7] n4 = w0 := ⟨_, rfl⟩
    have HM0 : Hid (More w w0) := Lib.hid (hw0 ▸ more_wd _ _ _)
    have hw1 : w0.cell? ⟨qw, 1, none⟩ = some (.slice aw V.length cw) := by rw [← hw0, ← hqw]; exact (mid_cell' w _ _ _ n4 1 []).trans rfl
    have hw2 : w0.cell? ⟨qw, 0, none⟩ = some (.int .i64 nu) := by rw [← hw0, ← hqw]; exact (mid_cell' w _ _ _ n4 0 []).trans rfl
    have hlw := cell_lt' hw1
    have hv0 : w0.cell? ⟨qv, 0, none⟩ = some (.int .i64 nx) := by rw [← hw0, ← hqv]; exact (mid_cell' w _ _ _ n4 0 [_, _, _]).trans rfl
    have hv1 : w0.cell? ⟨qv, 1, none⟩ = some (.slice av V.length cv) := by rw [← hw0, ← hqv]; exact (mid_cell' w _ _ _ n4 1 [_, _, _]).trans rfl
    have hlv := cell_lt' hv0
    have HV0 : Hid (VRowsAt w0 av V) := Lib.hid (by rw [← hw0]; exact HV.out.more (by repeat (first | exact more_same _ _ _ _ | apply more_cons)))
    have HW0 : Hid (VRowsAt w0 aw V) := Lib.hid (by rw [← hw0]; exact HW.out.more (by repeat (first | exact more_same _ _ _ _ | apply more_cons)))
    have HLT := Lib.hid HG.out.last
    rw [hw0, ← wd_nil w0]
    clear hw0 hqw hqv HV HW HB5
    go_loopw [9] (fun s9 wr => ∃ (i : Nat) (m : Ext), i ≤ V.length ∧ s9 = .int .i64 i ∧ wr = wd w0 [m.e] m.n) (fun s9 _ => V.length - (intOf s9).toNat)
    case atStart => exact ⟨0, ⟨#[], w0.drawn⟩, Nat.zero_le _, rfl, (wd_empty _ _ _).symm⟩
    case round =>
      obtain ⟨i, m, hil, rfl, rfl⟩ := hrel
      by_cases hlt : i < V.length
      · obtain ⟨x, hx⟩ : ∃ x, V[i]? = some x := ⟨_, List.getElem?_eq_getElem hlt⟩
        obtain ⟨hxo, hxk⟩ := HG.out.row x (List.mem_of_getElem? hx)
        have HXO := Lib.hid hxo
        have HXK := Lib.hid hxk
        obtain ⟨bb, off, rfl, hb, c0, c1, c2, c3⟩ := vrows_at HV0.out i x hx
        obtain ⟨bb', off', rfl, hb', p0, p1, p2, p3⟩ := vrows_at HW0.out i x hx
        obtain ⟨xk, xv, xo, xt⟩ := x
        dsimp only at c0 c1 c2 c3 p0 p1 p2 p3 HXO HXK
        have QN : ∀ W, (binOp .neq 34 (.agg #[.string (str xk), .string (str xv), .int .i64 xo, .int .i64 xt]) (.agg #[.string (str xk), .string (str xv), .int .i64 xo, .int .i64 xt])).run Try.prog W = .ok (.bool false) W := fun W => by rw [prow_neq, decide_eq_true rfl]; rfl
        clear hx hxo hxk
        go_wp2
        refine wp_region_call (fun (s : Ext) => wd w0 [s.e, rblk ⟨xk, xv, xo, xt⟩, m.e] s.n) (⟨#[], m.n + 1⟩) [0, 1, 2, 3, 4, 5, 6, 7, 8, 10, 11, 13, 14] 9 [12, 15, 16] [true, true, true, true, true, true, true, true, true, false, true, true, false, true, true] [false, false, false, false, false, false, false, false, false, true] [false, false, false, false, false, false, false, false, false, false, false, false, true, false, false, true, true] rfl ⟨rfl, rfl, rfl⟩ (by kernel_rfl) (by kernel_rfl) (fun _ _ d _ _ h => by cases d <;> exact h) ?_
        apply Exists.intro
        refine ⟨?_, ?_⟩
        · intro E
          simp only [sel_t, sel_f, sel_n]
          repeat (go_big_quiet_step ((fail)))
          exact wpQuiet_nil rfl
        simp only [sel_t, sel_f, sel_n]
        go_wp2_with (first | (go_at_call 31; (with_reducible refine (HLT.out _ (HM0.out.trans (more_wd _ _ _))).mono ?_); rintro e w9 hs; obtain ⟨mb, rfl, hm9, hmb, hlk⟩ := hs.out; have HM9 := Lib.hid hm9; have HLK := Lib.hid hlk; clear hs hm9 hlk))
        have hq : (Instr.lookup 70 (.map (some mb)) (.string (str xk)) false).run Try.prog w9 = .ok (.int .i64 xo) w9 := by have := HLK.out w9 rfl xk HXK.out; rw [HXO.out] at this; exact this
        refine ⟨(by obtain ⟨y, z, h⟩ := HM9.out; exact ⟨⟨#[] ++ y, z⟩, by rw [h, wd_plus, wd_merge]⟩), after_of rfl ?_⟩
        apply Exists.intro
        refine ⟨?_, ?_⟩
        · simp only [sel_t, sel_f, sel_n]
          repeat (go_big_quiet_step ((fail)))
          exact wpQuiet_nil rfl
        clear hq HLK hmb
        obtain ⟨m9, h9⟩ := cls_more ((more_wd w0 _ _).trans HM9.out)
        clear HM9
        subst h9
        go_wp2
        go_roundw
        case rel => exact ⟨i + 1, m9, by omega, by go_num, rfl⟩
        case measure => simp [intOf]; omega
      · go_wp2
        clear hlt hil hw1 hw2 hlw HW0
        go_loopw [11, 12] (fun s11 s12 wr => ∃ (i n : Nat) (m : Ext), i ≤ l.length ∧ n ≤ 32 * i ∧ s11 = .int .i64 n ∧ s12 = .int .i64 i ∧ Hid (((evs (L.take i)).filter (tellB es)).length = n) ∧ wr = wd w0 [m.e] m.n) (fun _ s12 _ => l.length - (intOf s12).toNat)
        case atStart => exact ⟨0, 0, m, Nat.zero_le _, by omega, rfl, rfl, Lib.hid rfl, rfl⟩
        case round =>
          obtain ⟨i, n, m, hil, hni, rfl, rfl, HE, rfl⟩ := hrel
          by_cases hlt : i < l.length
          · obtain ⟨x, hx⟩ : ∃ x, l[i]? = some x := ⟨_, List.getElem?_eq_getElem hlt⟩
            have hmem := List.mem_of_getElem? hx
            obtain ⟨bb, off, rfl, hb, c0, c1, c2, c3, c4, c5⟩ := bats_at (HB.out.more HM0.out) i x hx
            have HR := Lib.hid ((HB.out.each x hmem).more HM0.out)
            have HX : Hid (L[i]? = some x.b) := Lib.hid (by rw [← HL.out, List.getElem?_map, hx]; rfl)
            have HRC := Lib.hid (HG.out.recs x hmem)
            have HGT := Lib.hid (HG.out.get x hmem)
            have hxl := HG.out.len x hmem
            obtain ⟨⟨b0, b1, b2, b3, b4, recs⟩, xa, xc⟩ := x
            dsimp only at c0 c1 c2 c3 c4 c5 HR HX HRC HGT hxl
            obtain ⟨M, hM⟩ : ∃ M, recs.length = M := ⟨_, rfl⟩
            have HM := Lib.hid hM
            rw [hM] at c5 hxl
            clear hx hmem hM
            go_wp2
            go_loopw [11, 13] (fun s11 s13 wr => ∃ (k n2 : Nat) (m2 : Ext), k ≤ M ∧ n2 ≤ 32 * i + k ∧ s11 = .int .i64 n2 ∧ s13 = .int .i64 k ∧ Hid (((evs (L.take i) ++ (evB ⟨b0, b1, b2, b3, b4, recs⟩).take k).filter (tellB es)).length = n2) ∧ wr = wd w0 [m2.e] m2.n) (fun _ s13 _ => M - (intOf s13).toNat)
            case atStart => exact ⟨0, n, m, Nat.zero_le _, by omega, rfl, rfl, by rw [List.take_zero, List.append_nil]; exact HE, rfl⟩
            case round =>
              obtain ⟨k, n2, m2, hkM, hn2, rfl, rfl, HN2, rfl⟩ := hrel
              by_cases hk : k < M
              · obtain ⟨r, hr⟩ : ∃ r, recs[k]? = some r := ⟨_, List.getElem?_eq_getElem (by rw [HM.out]; exact hk)⟩
                have hrm := List.mem_of_getElem? hr
                obtain ⟨rb, ro, rfl, hrb, r0, r1, r2, r3, r4, r5⟩ := recs_at HR.out k r hr
                obtain ⟨u1, u2, u3, u4, u5⟩ := HRC.out r hrm
                have HKL := Lib.hid u5
                have HE1 := Lib.hid (take_snoc (evB_at (b := ⟨b0, b1, b2, b3, b4, recs⟩) hr))
                have HGR := Lib.hid (HGT.out r hrm)
                obtain ⟨rd, rt, rk, rkey, rdead, rval⟩ := r
                dsimp only at r0 r1 r2 r3 r4 r5 u1 u2 u3 u4 HKL HE1 HGR
                clear hr hrm u5
                cases rk with
                | false =>
                  have HN3 : Hid (((evs (L.take i) ++ (evB ⟨b0, b1, b2, b3, b4, recs⟩).take (k + 1)).filter (tellB es)).length = n2) := Lib.hid (by rw [HE1.out]; exact tell_no HN2.out rfl)
                  clear HGR HE1
                  go_wp2
                  refine wp_region_wd (by kernel_rfl) (by kernel_rfl) ?_
                  repeat (go_big_quiet_step ((fail)))
                  refine wpQuiet_nil ?_
                  rintro _ ⟨mx, rfl⟩
                  go_wp2
                  refine wp_region_wd (by kernel_rfl) (by kernel_rfl) ?_
                  repeat (go_big_quiet_step ((fail)))
                  refine wpQuiet_nil ?_
                  rintro _ ⟨mx, rfl⟩
                  go_wp2
                  go_roundw
                  case rel => exact ⟨k + 1, n2, ⟨_, _⟩, by omega, by omega, rfl, by go_num, HN3, by first | (rw [wd_merge, wd_merge, wd_merge]) | (rw [wd_merge, wd_merge]) | (rw [wd_merge])⟩
                  case measure => simp [intOf]; omega
                | true =>
                  obtain ⟨lo, hlo⟩ : ∃ lo, lastO es rkey = lo := ⟨_, rfl⟩
                  have HLO := Lib.hid hlo
                  rw [hlo] at HGR
                  by_cases hat : lo = b0 + rd
                  · subst hat
                    cases rdead with
                    | true =>
                      have HGX : Hid (∀ W a c, VRowsAt W a V → Calls Try.prog 11 #[.agg #[.int .i64 nx, .slice a V.length c], .string (str rkey)] W fun e w' => e = .returned (.tuple #[.agg #[.string (str []), .string (str []), .int .i64 0, .int .i64 0], .bool false]) ∧ More W w') := Lib.hid (HGR.out rfl rfl)
                      have HN3 : Hid (((evs (L.take i) ++ (evB ⟨b0, b1, b2, b3, b4, recs⟩).take (k + 1)).filter (tellB es)).length = n2) := Lib.hid (by
                        rw [HE1.out]
                        refine tell_no HN2.out ?_
                        unfold tellB
                        simp)
                      clear HGR HE1 hlo
                      go_wp2
                      refine wp_region_wd (by kernel_rfl) (by kernel_rfl) ?_
                      repeat (go_big_quiet_step ((fail)))
                      refine wpQuiet_nil ?_
                      rintro _ ⟨mx, rfl⟩
                      go_wp2
                      refine wp_region_call (fun (s : Ext) => wd w0 [s.e, qrblk rd rt true rkey true rval, m2.e] s.n) (⟨mx.e, mx.n + 1⟩) [0, 1, 2, 3, 4, 6, 7, 9] 5 [8, 10, 11] [true, true, true, true, true, false, true, true, false, true] [false, false, false, false, false, true] [false, false, false, false, false, false, false, false, true, false, true, true] rfl ⟨rfl, rfl, rfl⟩ (by kernel_rfl) (by kernel_rfl) (fun _ _ d _ _ h => by cases d <;> exact h) ?_
                      apply Exists.intro
                      refine ⟨?_, ?_⟩
                      · intro E
                        simp only [sel_t, sel_f, sel_n]
                        repeat (go_big_quiet_step ((fail)))
                        exact wpQuiet_nil rfl
                      simp only [sel_t, sel_f, sel_n]
                      go_wp2_with (first | (go_at_call 31; (with_reducible refine (HLT.out _ (HM0.out.trans (more_wd _ _ _))).mono ?_); rintro e w9 hs; obtain ⟨mb, rfl, hm9, hmb, hlk⟩ := hs.out; have HM9 := Lib.hid hm9; have HLK := Lib.hid hlk; clear hs hm9 hlk))
                      have hq : (Instr.lookup 70 (.map (some mb)) (.string (str rkey)) false).run Try.prog w9 = .ok (.int .i64 (b0 + rd)) w9 := by have := HLK.out w9 rfl rkey HKL.out; rw [HLO.out] at this; exact this
                      refine ⟨(by obtain ⟨y, z, h⟩ := HM9.out; exact ⟨⟨mx.e ++ y, z⟩, by rw [h, wd_plus, wd_merge]⟩), after_of rfl ?_⟩
                      apply Exists.intro
                      refine ⟨?_, ?_⟩
                      · simp only [sel_t, sel_f, sel_n]
                        repeat (go_big_quiet_step ((fail)))
                        exact wpQuiet_nil rfl
                      clear hq HLK hmb
                      generalize hqr : sz w0.heap.size [m2.e.size] = qr
                      have s0 : w9.cell? ⟨qr, 0, none⟩ = some (.int .i64 rd) := cell_more HM9.out (by rw [← hqr]; exact (mid_cell' w0 _ _ [m2.e] _ 0 [mx.e]).trans rfl)
                      have s1 : w9.cell? ⟨qr, 1, none⟩ = some (.int .i64 rt) := cell_more HM9.out (by rw [← hqr]; exact (mid_cell' w0 _ _ [m2.e] _ 1 [mx.e]).trans rfl)
                      have s3 : w9.cell? ⟨qr, 3, none⟩ = some (.string (str rkey)) := cell_more HM9.out (by rw [← hqr]; exact (mid_cell' w0 _ _ [m2.e] _ 3 [mx.e]).trans rfl)
                      have s4 : w9.cell? ⟨qr, 4, none⟩ = some (.bool true) := cell_more HM9.out (by rw [← hqr]; exact (mid_cell' w0 _ _ [m2.e] _ 4 [mx.e]).trans rfl)
                      have s5 : w9.cell? ⟨qr, 5, none⟩ = some (.string (str rval)) := cell_more HM9.out (by rw [← hqr]; exact (mid_cell' w0 _ _ [m2.e] _ 5 [mx.e]).trans rfl)
                      have hs0 := cell_lt' s0
                      have HM09 : Hid (More w0 w9) := Lib.hid ((more_wd w0 _ _).trans HM9.out)
                      have HVX : Hid (VRowsAt w9 av V) := Lib.hid (HV0.out.more HM09.out)
                      have hv0' := cell_more HM09.out hv0
                      have hv1' := cell_more HM09.out hv1
                      have hlv' := cell_lt' hv0'
                      rw [← wd_nil w9]
                      clear HM9 hqr
                      go_wp2_with (first | (go_at_call 11; ((with_reducible refine (HGX.out _ _ _ (HVX.out.more (more_wd _ _ _))).mono ?_); rintro e3 w3 ⟨rfl, x3, n3, rfl⟩)))
                      go_roundw
                      case rel => exact Exists.elim (cls_ex HM09.out _ _) (fun m9 h9 => ⟨k + 1, n2, m9, by omega, by omega, by go_num, by go_num, HN3, h9⟩)
                      case measure => simp [intOf]; omega
                    | false =>
                      have HGX : Hid (∀ W a c, VRowsAt W a V → Calls Try.prog 11 #[.agg #[.int .i64 nx, .slice a V.length c], .string (str rkey)] W fun e w' => e = .returned (.tuple #[.agg #[.string (str rkey), .string (str rval), .int .i64 (b0 + rd), .int .i64 rt], .bool true]) ∧ More W w') := Lib.hid (HGR.out rfl rfl)
                      have HN3 : Hid (((evs (L.take i) ++ (evB ⟨b0, b1, b2, b3, b4, recs⟩).take (k + 1)).filter (tellB es)).length = n2 + 1) := Lib.hid (by
                        rw [HE1.out]
                        refine tell_yes HN2.out ?_
                        unfold tellB
                        simp only [Bool.true_and]
                        rw [hlo, decide_eq_true rfl]; rfl)
                      clear HGR HE1 hlo
                      go_wp2
                      refine wp_region_wd (by kernel_rfl) (by kernel_rfl) ?_
                      repeat (go_big_quiet_step ((fail)))
                      refine wpQuiet_nil ?_
                      rintro _ ⟨mx, rfl⟩
                      go_wp2
                      refine wp_region_call (fun (s : Ext) => wd w0 [s.e, qrblk rd rt true rkey false rval, m2.e] s.n) (⟨mx.e, mx.n + 1⟩) [0, 1, 2, 3, 4, 6, 7, 9] 5 [8, 10, 11] [true, true, true, true, true, false, true, true, false, true] [false, false, false, false, false, true] [false, false, false, false, false, false, false, false, true, false, true, true] rfl ⟨rfl, rfl, rfl⟩ (by kernel_rfl) (by kernel_rfl) (fun _ _ d _ _ h => by cases d <;> exact h) ?_
                      apply Exists.intro
                      refine ⟨?_, ?_⟩
                      · intro E
                        simp only [sel_t, sel_f, sel_n]
                        repeat (go_big_quiet_step ((fail)))
                        exact wpQuiet_nil rfl
                      simp only [sel_t, sel_f, sel_n]
                      go_wp2_with (first | (go_at_call 31; (with_reducible refine (HLT.out _ (HM0.out.trans (more_wd _ _ _))).mono ?_); rintro e w9 hs; obtain ⟨mb, rfl, hm9, hmb, hlk⟩ := hs.out; have HM9 := Lib.hid hm9; have HLK := Lib.hid hlk; clear hs hm9 hlk))
                      have hq : (Instr.lookup 70 (.map (some mb)) (.string (str rkey)) false).run Try.prog w9 = .ok (.int .i64 (b0 + rd)) w9 := by have := HLK.out w9 rfl rkey HKL.out; rw [HLO.out] at this; exact this
                      refine ⟨(by obtain ⟨y, z, h⟩ := HM9.out; exact ⟨⟨mx.e ++ y, z⟩, by rw [h, wd_plus, wd_merge]⟩), after_of rfl ?_⟩
                      apply Exists.intro
                      refine ⟨?_, ?_⟩
                      · simp only [sel_t, sel_f, sel_n]
                        repeat (go_big_quiet_step ((fail)))
                        exact wpQuiet_nil rfl
                      clear hq HLK hmb
                      generalize hqr : sz w0.heap.size [m2.e.size] = qr
                      have s0 : w9.cell? ⟨qr, 0, none⟩ = some (.int .i64 rd) := cell_more HM9.out (by rw [← hqr]; exact (mid_cell' w0 _ _ [m2.e] _ 0 [mx.e]).trans rfl)
                      have s1 : w9.cell? ⟨qr, 1, none⟩ = some (.int .i64 rt) := cell_more HM9.out (by rw [← hqr]; exact (mid_cell' w0 _ _ [m2.e] _ 1 [mx.e]).trans rfl)
                      have s3 : w9.cell? ⟨qr, 3, none⟩ = some (.string (str rkey)) := cell_more HM9.out (by rw [← hqr]; exact (mid_cell' w0 _ _ [m2.e] _ 3 [mx.e]).trans rfl)
                      have s4 : w9.cell? ⟨qr, 4, none⟩ = some (.bool false) := cell_more HM9.out (by rw [← hqr]; exact (mid_cell' w0 _ _ [m2.e] _ 4 [mx.e]).trans rfl)
                      have s5 : w9.cell? ⟨qr, 5, none⟩ = some (.string (str rval)) := cell_more HM9.out (by rw [← hqr]; exact (mid_cell' w0 _ _ [m2.e] _ 5 [mx.e]).trans rfl)
                      have hs0 := cell_lt' s0
                      have HM09 : Hid (More w0 w9) := Lib.hid ((more_wd w0 _ _).trans HM9.out)
                      have HVX : Hid (VRowsAt w9 av V) := Lib.hid (HV0.out.more HM09.out)
                      have hv0' := cell_more HM09.out hv0
                      have hv1' := cell_more HM09.out hv1
                      have hlv' := cell_lt' hv0'
                      rw [← wd_nil w9]
                      clear HM9 hqr
                      go_wp2_with (first | (go_at_call 11; ((with_reducible refine (HGX.out _ _ _ (HVX.out.more (more_wd _ _ _))).mono ?_); rintro e3 w3 ⟨rfl, x3, n3, rfl⟩)))
                      go_roundw
                      case rel => exact Exists.elim (cls_ex HM09.out _ _) (fun m9 h9 => ⟨k + 1, n2 + 1, m9, by omega, by omega, by go_num, by go_num, HN3, h9⟩)
                      case measure => simp [intOf]; omega
                  · have hb1 : (lo == b0 + rd) = false := by rw [beq_eq_false_iff_ne]; exact hat
                    have hb2 : (lo != b0 + rd) = true := by rw [bne_iff_ne]; exact hat
                    have HN3 : Hid (((evs (L.take i) ++ (evB ⟨b0, b1, b2, b3, b4, recs⟩).take (k + 1)).filter (tellB es)).length = n2) := Lib.hid (by
                      rw [HE1.out]
                      refine tell_no HN2.out ?_
                      unfold tellB
                      simp only [Bool.true_and]
                      rw [hlo, decide_eq_false (fun h => hat h.symm)]; rfl)
                    clear HGR HE1 hlo
                    go_wp2
                    refine wp_region_wd (by kernel_rfl) (by kernel_rfl) ?_
                    repeat (go_big_quiet_step ((fail)))
                    refine wpQuiet_nil ?_
                    rintro _ ⟨mx, rfl⟩
                    go_wp2
                    refine wp_region_call (fun (s : Ext) => wd w0 [s.e, qrblk rd rt true rkey rdead rval, m2.e] s.n) (⟨mx.e, mx.n + 1⟩) [0, 1, 2, 3, 4, 6, 7, 9] 5 [8, 10, 11] [true, true, true, true, true, false, true, true, false, true] [false, false, false, false, false, true] [false, false, false, false, false, false, false, false, true, false, true, true] rfl ⟨rfl, rfl, rfl⟩ (by kernel_rfl) (by kernel_rfl) (fun _ _ d _ _ h => by cases d <;> exact h) ?_
                    apply Exists.intro
                    refine ⟨?_, ?_⟩
                    · intro E
                      simp only [sel_t, sel_f, sel_n]
                      repeat (go_big_quiet_step ((fail)))
                      exact wpQuiet_nil rfl
                    simp only [sel_t, sel_f, sel_n]
                    go_wp2_with (first | (go_at_call 31; (with_reducible refine (HLT.out _ (HM0.out.trans (more_wd _ _ _))).mono ?_); rintro e w9 hs; obtain ⟨mb, rfl, hm9, hmb, hlk⟩ := hs.out; have HM9 := Lib.hid hm9; have HLK := Lib.hid hlk; clear hs hm9 hlk))
                    have hq : (Instr.lookup 70 (.map (some mb)) (.string (str rkey)) false).run Try.prog w9 = .ok (.int .i64 lo) w9 := by have := HLK.out w9 rfl rkey HKL.out; rw [HLO.out] at this; exact this
                    refine ⟨(by obtain ⟨y, z, h⟩ := HM9.out; exact ⟨⟨mx.e ++ y, z⟩, by rw [h, wd_plus, wd_merge]⟩), after_of rfl ?_⟩
                    apply Exists.intro
                    refine ⟨?_, ?_⟩
                    · simp only [sel_t, sel_f, sel_n]
                      repeat (go_big_quiet_step ((fail)))
                      exact wpQuiet_nil rfl
                    clear hq HLK hmb
                    obtain ⟨m9, h9⟩ := cls_more ((more_wd w0 _ _).trans HM9.out)
                    clear HM9
                    subst h9
                    go_wp2
                    go_roundw
                    case rel => exact ⟨k + 1, n2, m9, by omega, by omega, rfl, by go_num, HN3, rfl⟩
                    case measure => simp [intOf]; omega
              · have hkM2 : k = M := by omega
                have HN3 : Hid (((evs (L.take (i + 1))).filter (tellB es)).length = n2) := Lib.hid (by
                  have ht : (evB ⟨b0, b1, b2, b3, b4, recs⟩).take k = evB ⟨b0, b1, b2, b3, b4, recs⟩ := List.take_of_length_le (by rw [evB_len]; show recs.length ≤ k; rw [HM.out]; omega)
                  have := HN2.out
                  rw [ht] at this
                  rw [evs_snoc HX.out]; exact this)
                go_wp2
                go_roundw
                case rel => exact ⟨i + 1, n2, m2, by omega, by omega, rfl, by go_num, HN3, rfl⟩
                case measure => simp [intOf]; omega
          · obtain rfl : i = l.length := by omega
            have hn : n = V.length := by
              have := HE.out
              rw [List.take_of_length_le (by rw [← HL.out, List.length_map]; exact Nat.le_refl _), HES.out, HG.out.cnt] at this
              exact this.symm
            subst hn
            go_wp2_with (first | (go_at_call 9; ((with_reducible refine (HAW.out _).mono ?_); rintro e w1 ⟨rfl, x1, n1, rfl⟩)))
            go_ret
            exact ⟨rfl, HM0.out.trans (more_wd _ _ _)⟩
end Go.Proofs.Ytlanghikmccmbaa
