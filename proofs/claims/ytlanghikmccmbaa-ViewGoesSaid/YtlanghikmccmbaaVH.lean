/- view.Read. -/
import Derived.Test.YtlanghikmccmbaaVF
import Derived.Test.YtlanghikmccmbaaMF
namespace Go.Proofs.Ytlanghikmccmbaa
open Go.ChangeShapes Go.WideShapes Go.ChangeAt Go.RowKit
set_option linter.unusedVariables false
set_option linter.unusedSimpArgs false

/-- A view and an error, handed back. -/
structure VwRet (w w' : World) (x : Ending) (g : Vw × Int) : Prop where
  out : ∃ a cap, x = .returned (.tuple #[.agg #[.int .i64 g.1.next, .slice a g.1.rows.length cap], .int .i64 g.2]) ∧ VRowsAt w' a g.1.rows ∧ More w w' ∧ From w.heap.size a g.1.rows
theorem vwret_no {w : World} {L : List (Array Obj)} {n : Nat} {x : Ending} {l : List UInt8} (h : ∀ b, viewPut b ≠ (l, 0)) (hx : x = .returned (.tuple #[.agg #[.int .i64 0, .slice none 0 0], .int .i64 4])) : VwRet w (wd w L n) x (viewGet l) := by
  rw [viewGet_no h, hx]
  exact ⟨none, 0, rfl, RowAt.nil _, more_wd _ _ _, From.nil _ _⟩
/-- What is a row in the one piece is one in the other. -/
structure Keeps (x y : Array Obj) : Prop where
  out : ∀ {B : Nat} {S : List Nat} {E : TypeId} {size : Nat} {v : Value} {n : Nat} {xs : List Value}, rowIn B S x E size v n xs → rowIn B S y E size v n xs
theorem took_own3 {w w' : World} {x y z : Array Obj} {L : List (Array Obj)} {n p : Nat} {v : Value} {l l' : List UInt8} {e e' : Int} (hp : p = sz w.heap.size (shape L)) (h : Took (wd w (x :: y :: z :: rbk v e :: L) n) w' p v l l' e') :
    ∃ v' M, (∀ W0, RB W0 v l → RB W0 v' l') ∧ Keeps x (Ext.e M) ∧ w' = wd w (Ext.e M :: y :: z :: rbk v' e' :: L) M.n := by
  obtain ⟨v', hk, m, rfl⟩ := h.out
  subst hp
  refine ⟨v', ⟨x ++ m.e, m.n⟩, hk, ⟨fun h => rowIn_more h _⟩, ?_⟩
  rw [rset_wd_past _ _ _ _ _ _ _ _ rfl (by simp [shape, inn]), rset_wd_past _ _ _ _ _ _ _ _ rfl (by simp [shape, inn]), rset_wd_past _ _ _ _ _ _ _ _ rfl (by simp [shape, inn]), rset_wd w L n _ _ _ _ _ _ _ rfl rfl, onTop_wd, onTop_wd, onTop_wd, wd_plus, wd_merge]
theorem took_own2 {w w' : World} {x y : Array Obj} {L : List (Array Obj)} {n p : Nat} {v : Value} {l l' : List UInt8} {e e' : Int} (hp : p = sz w.heap.size (shape L)) (h : Took (wd w (x :: y :: rbk v e :: L) n) w' p v l l' e') :
    ∃ v' M, (∀ W0, RB W0 v l → RB W0 v' l') ∧ w' = wd w (Ext.e M :: x :: y :: rbk v' e' :: L) M.n := by
  obtain ⟨v', hk, m, rfl⟩ := h.out
  subst hp
  refine ⟨v', m, hk, ?_⟩
  rw [rset_wd_past _ _ _ _ _ _ _ _ rfl (by simp [shape, inn]), rset_wd_past _ _ _ _ _ _ _ _ rfl (by simp [shape, inn]), rset_wd w L n _ _ _ _ _ _ _ rfl rfl, onTop_wd, onTop_wd, wd_plus]
/-- The four steps of a row. -/
structure RowF (l : List UInt8) (e : Int) (lA : List UInt8) (eA : Int) (lB : List UInt8) (eB : Int) (lC : List UInt8) (eC : Int) (lD : List UInt8) (eD : Int) (K V : List UInt8) (O T : Int) : Prop where
  A : ∀ (v : Value) (p : Nat) (W : World), Rdr W p v e → RB W v l → Calls Try.prog 50 #[.pointer (some ⟨p, 0, none⟩), .int .i64 64] W fun x w' => x = .returned (.string (str K)) ∧ Took W w' p v l lA eA
  B : ∀ (v : Value) (p : Nat) (W : World), Rdr W p v eA → RB W v lA → Calls Try.prog 50 #[.pointer (some ⟨p, 0, none⟩), .int .i64 512] W fun x w' => x = .returned (.string (str V)) ∧ Took W w' p v lA lB eB
  C : ∀ (v : Value) (p : Nat) (W : World), Rdr W p v eB → RB W v lB → Calls Try.prog 49 #[.pointer (some ⟨p, 0, none⟩)] W fun x w' => x = .returned (.int .i64 O) ∧ Took W w' p v lB lC eC
  D : ∀ (v : Value) (p : Nat) (W : World), Rdr W p v eC → RB W v lC → Calls Try.prog 49 #[.pointer (some ⟨p, 0, none⟩)] W fun x w' => x = .returned (.int .i64 T) ∧ Took W w' p v lC lD eD
theorem rowF_any (l : List UInt8) (e : Int) : ∃ lA eA lB eB lC eC lD eD K V O T, RowF l e lA eA lB eB lC eC lD eD K V O T ∧ rdRow l e = ⟨K, V, O, T⟩ ∧ rdD l e = (lD, eD) :=
  ⟨(rdA l e).1, (rdA l e).2.1, (rdB l e).1, (rdB l e).2.1, (rdC l e).1, (rdC l e).2, (rdD l e).1, (rdD l e).2, (rdA l e).2.2, (rdB l e).2.2, numV (rdB l e).1 (rdB l e).2.1, numV (rdC l e).1 (rdC l e).2,
    ⟨fun v p W hr hv => txt_any p v l e 64 (by decide) W hr hv, fun v p W hr hv => txt_any p v _ _ 512 (by decide) W hr hv, fun v p W hr hv => num_any p v _ _ W hr hv, fun v p W hr hv => num_any p v _ _ W hr hv⟩, rfl, rfl⟩
theorem info_vrow : (Try.prog.info? 34).map (fun i => (i.zero, i.size, i.bytes)) = some (some (.agg #[.string ⟨#[]⟩, .string ⟨#[]⟩, .int .i64 0, .int .i64 0]), 4, 48) := by kernel_rfl
theorem vput_dec (k : Nat) (l : List UInt8) (hk : k ≤ 4097) (a : Option Addr) (cap : Nat) (w : World) (h : VRowsAt w a (viewDec k l).rows) : Calls Try.prog 21 #[.agg #[.int .i64 (viewDec k l).next, .slice a (viewDec k l).rows.length cap]] w fun x w' => BRet w w' x (viewPut (viewDec k l)).1 (viewPut (viewDec k l)).2 :=
  vput_any _ a cap w h (rdRows_small _ _ _) (by show (rdRows _ _ _).length ≤ _; rw [rdRows_len]; unfold maxLen; omega)
set_option maxRecDepth 100000 in
set_option maxHeartbeats 6400000 in
theorem vread_any (v : Value) (l : List UInt8) (w : World) (hv : RB w v l) (hl : l.length ≤ 1099511627776) : Calls Try.prog 23 #[v] w fun x w' => VwRet w w' x (viewGet l) := by
  obtain ⟨i0, hi, hz0, hz1, hz2⟩ := info_parts info_vrow
  have HV := Lib.hid hv
  have HG : Hid (viewGet l = if viewPut (viewDec (vN l) l) = (l, 0) then (viewDec (vN l) l, 0) else (Vw.zero, 4)) := Lib.hid rfl
  have HNO2 : Hid (viewPut (viewDec (vN l) l) ≠ (l, 0) → ∀ b, viewPut b ≠ (l, 0)) := Lib.hid (fun h b hb => h (by rw [(view_facts hb).1]; exact hb))
  have HD : Hid (viewDec (vN l) l = ⟨vNext l, rdRows (vN l) (vSt l).1 (vSt l).2⟩) := Lib.hid rfl
  have HNN : Hid (vN l = (max 0 (min (vCnt l) 4097)).toNat) := Lib.hid rfl
  clear hv
  have hn0 := fun (v1 : Value) (p : Nat) (W : World) (hr : Rdr W p v1 0) (h : RB W v1 l) => num_any p v1 l 0 W hr h
  have hn1 := fun (v1 : Value) (p : Nat) (W : World) (hr : Rdr W p v1 (numE l 0)) (h : RB W v1 (numL l 0)) => num_any p v1 (numL l 0) (numE l 0) W hr h
  have e0 : vNext l = numV l 0 := rfl
  have e1 : vCnt l = numV (numL l 0) (numE l 0) := rfl
  have e2 : vSt l = (numL (numL l 0) (numE l 0), numE (numL l 0) (numE l 0)) := rfl
  rw [← e0] at hn0
  rw [← e1] at hn1
  have hput := fun (a : Option Addr) (cap : Nat) (W : World) (h : VRowsAt W a (viewDec (vN l) l).rows) => vput_dec (vN l) l (by rw [HNN.out]; omega) a cap W h
  have hN : vN l ≤ 4097 := by rw [HNN.out]; omega
  generalize vNext l = d0 at *
  generalize vCnt l = d1 at *
  obtain ⟨l2, q2, hst⟩ : ∃ l2 q2, vSt l = (l2, q2) := ⟨_, _, rfl⟩
  rw [hst] at e2 HD
  simp only [Prod.mk.injEq] at e2
  rw [← e2.1, ← e2.2] at hn1
  clear e0 e1 e2 hst
  generalize numL l 0 = l1 at *
  generalize numE l 0 = q1 at *
  dsimp only at *
  generalize vN l = N at *
  generalize viewDec N l = D at *
  have hD := HD.out
  subst hD
  dsimp only at hput
  rw [rdRows_len] at hput
  generalize hP : viewPut ⟨d0, rdRows N l2 q2⟩ = P at *
  clear hP HD
  have hmx : max 0 (min d1 4097) = (N : Int) := by have := HNN.out; omega
  have HPUT := Lib.hid hput
  clear hput HNN
  obtain ⟨pl, pe⟩ := P
  have HN2 := Lib.hid hN
  refine calls_wd ?_
  go_enter Try.func23, Try.ntmps23
  go_wp2_with (first
    | (go_at_call 48; ((with_reducible refine (new_any v l _ (HV.out.more (more_wd _ _ _)) hl).mono ?_); rintro x w1 hnr; obtain ⟨v0, m0, rfl, hr0, rfl⟩ := hnr.wd; clear hnr; have HO := Lib.hid (ownRd (p := sz w.heap.size [m0.e.size, 1]) rfl hr0)))
    | (go_at_call 49; ((with_reducible refine (hn0 v0 _ _ (HO.out.r0 _ _ _) (HO.out.b0 _ _ _ _ _ (fun _ h => h))).mono ?_); rintro x w1 ⟨rfl, ht⟩; obtain ⟨v1, m1, hb1, rfl⟩ := took_own0 (L := [_, _]) rfl ht; have HB1 := Lib.hid hb1; clear ht hb1))
    | (go_at_call 49; ((with_reducible refine (hn1 v1 _ _ (HO.out.r2 _ _ _ _ _) (HO.out.b2 _ _ _ _ _ _ _ HB1.out)).mono ?_); rintro x w1 ⟨rfl, ht⟩; obtain ⟨v2, m2, hb2, rfl⟩ := took_own2 (L := [_, _]) rfl ht; have HB2 := Lib.hid (keep_trans HB1.out hb2); clear ht hb2)))
  go_loopw [17] (fun i wr => ∃ (k : Nat) (m : Ext) (vk : Value) (a : Option Addr) (cap : Nat) (sl : List UInt8) (se : Int), k ≤ N ∧ i = .int .i64 k ∧ Hid (rdSt k l2 q2 = (sl, se)) ∧ Hid (∀ W0, RB W0 v0 l → RB W0 vk sl) ∧ Hid (rowIn w.heap.size [1, m1.e.size, 1, m0.e.size, 1] m.e 34 4 (.slice a k cap) k ((rdRows k l2 q2).flatMap vrCells)) ∧ wr = wd w [m.e, #[.cells #[.int .i64 d0, .slice a k cap] 32], m1.e, rbk vk se, m0.e, #[.cells #[.int .i64 0, .slice none 0 0] 32]] m.n) (fun i _ => N - (intOf i).toNat)
  case atStart => exact ⟨0, m2, v2, none, 0, l2, q2, Nat.zero_le _, rfl, Lib.hid rfl, HB2, Lib.hid (rowIn_nil _ _ _ _ _), rfl⟩
  case round =>
      obtain ⟨k, m, vk, a, cap, sl, se, hk, rfl, HS, HKP, HROW, rfl⟩ := hrel
      by_cases hlt : k < N
      · skip
        obtain ⟨lA, eA, lB, eB, lC, eC, lD, eD, K1, V1, O1, T1, hF, hr1, hd1⟩ := rowF_any sl se
        have HF := Lib.hid hF
        have HN1 : Hid (rdRows (k + 1) l2 q2 = rdRows k l2 q2 ++ [⟨K1, V1, O1, T1⟩]) := Lib.hid (by rw [rdRows_succ, HS.out]; show _ ++ [rdRow sl se] = _; rw [hr1])
        have HS1 : Hid (rdSt (k + 1) l2 q2 = (lD, eD)) := Lib.hid (by unfold rdSt; rw [HS.out]; exact hd1)
        clear hF hr1 hd1
        have hlt2 : (k : Int) < (N : Int) := by omega
        go_wp2
        refine wp_region_mixg (fun (s : Value × Int × Ext) => wd w [s.2.2.e, #[.cells #[.int .i64 d0, .slice a k cap] 32], m1.e, rbk s.1 s.2.1, m0.e, #[.cells #[.int .i64 0, .slice none 0 0] 32]] s.2.2.n) ((vk, se, ⟨m.e, m.n + 1⟩)) [0, 1, 2, 4, 6, 8] [3, 5, 7, 9, 10, 11, 12, 13] 14 _ [true, true, true, false, true, false, true, false, true] [false, false, false, true, false, true, false, true, false, true, true, true, true, true] rfl rfl ⟨rfl, rfl⟩ (by kernel_rfl) (by kernel_rfl) (fun _ _ d _ _ h => by cases d <;> exact h) ?_
        apply Exists.intro
        refine ⟨?_, ?_⟩
        · intro E
          simp only [sel_t, sel_f, sel_n]
          repeat (go_big_quiet_step ((fail)))
          exact wpQuiet_nil rfl
        simp only [sel_t, sel_f, sel_n, loudR_cons, loudR_nil]
        go_wp2_with (first | (go_at_call 50; ((with_reducible refine (HF.out.A vk _ _ (HO.out.r3 _ _ _ _ _ _) (HO.out.b3 _ _ _ _ _ _ _ _ HKP.out)).mono ?_); rintro x w1 ⟨rfl, ht⟩; obtain ⟨vA, gA, hb, kgA, rfl⟩ := took_own3 (L := [_, _]) rfl ht; have HBA := Lib.hid (keep_trans HKP.out hb); clear ht hb)))
        refine ⟨(by first | exact ⟨(vA, eA, ⟨_, _⟩), rfl⟩ | exact ⟨vA, eA, ⟨_, _⟩, rfl⟩), ?_⟩
        rw [loudR_cons]
        go_wp2_with (first | (go_at_call 50; ((with_reducible refine (HF.out.B vA _ _ (HO.out.r3 _ _ _ _ _ _) (HO.out.b3 _ _ _ _ _ _ _ _ HBA.out)).mono ?_); rintro x w1 ⟨rfl, ht⟩; obtain ⟨vB, gB, hb, kgB, rfl⟩ := took_own3 (L := [_, _]) rfl ht; have HBB := Lib.hid (keep_trans HBA.out hb); clear ht hb)))
        refine ⟨(by first | exact ⟨(vB, eB, ⟨_, _⟩), rfl⟩ | exact ⟨vB, eB, ⟨_, _⟩, rfl⟩), ?_⟩
        rw [loudR_cons]
        go_wp2_with (first | (go_at_call 49; ((with_reducible refine (HF.out.C vB _ _ (HO.out.r3 _ _ _ _ _ _) (HO.out.b3 _ _ _ _ _ _ _ _ HBB.out)).mono ?_); rintro x w1 ⟨rfl, ht⟩; obtain ⟨vC, gC, hb, kgC, rfl⟩ := took_own3 (L := [_, _]) rfl ht; have HBC := Lib.hid (keep_trans HBB.out hb); clear ht hb)))
        refine ⟨(by first | exact ⟨(vC, eC, ⟨_, _⟩), rfl⟩ | exact ⟨vC, eC, ⟨_, _⟩, rfl⟩), ?_⟩
        rw [loudR_cons]
        go_wp2_with (first | (go_at_call 49; ((with_reducible refine (HF.out.D vC _ _ (HO.out.r3 _ _ _ _ _ _) (HO.out.b3 _ _ _ _ _ _ _ _ HBC.out)).mono ?_); rintro x w1 ⟨rfl, ht⟩; obtain ⟨vD, gD, hb, kgD, rfl⟩ := took_own3 (L := [_, _]) rfl ht; have HBD := Lib.hid (keep_trans HBC.out hb); clear ht hb)))
        refine ⟨(by first | exact ⟨(vD, eD, ⟨_, _⟩), rfl⟩ | exact ⟨vD, eD, ⟨_, _⟩, rfl⟩), ?_⟩
        rw [loudR_cons]
        go_wp2
        refine ⟨(by first | exact ⟨(vD, eD, ⟨_, _⟩), rfl⟩ | exact ⟨vD, eD, ⟨_, _⟩, rfl⟩), ?_⟩
        rw [loudR_cons]
        go_wp2
        refine ⟨(by first | exact ⟨(vD, eD, ⟨_ ++ #[_], _⟩), by rw [wd_merge]⟩ | exact ⟨vD, eD, ⟨_ ++ #[_], _⟩, by rw [wd_merge]⟩), ?_⟩
        rw [loudR_cons]
        go_wp2_with (first | (at_builtin; refine wp_append_row rfl _ _ _ rfl 34 i0 _ 4 48 Try.underlying30 hi hz0 hz1 hz2 rfl (by decide) (.slice a k cap) k _ rfl (kgD.out (kgC.out (kgB.out (kgA.out HROW.out)))) _ _ 1 1 rfl rfl (by simp [Value.oneCell']) (by unfold maxLen; omega) (by omega) ?_; intro v9 m9 hr9; obtain ⟨a9, c9, rfl⟩ := rowIn_slice hr9))
        refine ⟨(by first | exact ⟨(vD, eD, ⟨_, _⟩), rfl⟩ | exact ⟨vD, eD, ⟨_, _⟩, rfl⟩), ?_⟩
        rw [loudR_cons]
        go_wp2
        refine ⟨(by first | exact ⟨(vD, eD, ⟨_, _⟩), rfl⟩ | exact ⟨vD, eD, ⟨_, _⟩, rfl⟩), ?_⟩
        rw [loudR_nil]
        go_wp2
        refine ⟨trivial, ?_⟩
        go_wp2
        go_roundw
        case rel => exact ⟨k + 1, m9, vD, a9, c9, lD, eD, by omega, by go_num, HS1, HBD, Lib.hid (by rw [HN1.out, flat_snoc]; exact hr9), rfl⟩
        case measure => simp [intOf]; omega
      · obtain rfl : k = N := by omega
        have HRA : Hid (∀ n, VRowsAt (wd w [m.e, #[.cells #[.int .i64 d0, .slice a k cap] 32], m1.e, rbk vk se, m0.e, #[.cells #[.int .i64 0, .slice none 0 0] 32]] n) a (rdRows k l2 q2)) := Lib.hid (fun n => by
          have h := rdrow_of_row (L := [#[.cells #[.int .i64 d0, .slice a k cap] 32], m1.e, rbk vk se, m0.e, #[.cells #[.int .i64 0, .slice none 0 0] 32]]) (k := n) HROW.out
          have e := rdRows_len k l2 q2
          refine RowAt.of_rd (cap := cap) ?_
          rw [e]; exact h)
        by_cases hpe : pe = 0
        · by_cases hpl : l = pl
          · have HX : Hid (viewGet l = (⟨d0, rdRows k l2 q2⟩, 0)) := Lib.hid (by rw [HG.out, if_pos (by rw [← hpl, hpe])])
            subst hpe
            have hdec : decide (l = pl) = true := decide_eq_true hpl
            clear hpl
            go_wp2_with (first
              | (go_at_call 21; ((with_reducible refine (HPUT.out a cap _ (HRA.out _)).mono ?_); rintro e w2 ⟨u9, rfl, hm9⟩; obtain ⟨p9, rfl, hs9⟩ := hm9.wd; clear hm9; have HU := Lib.hid (RB.of_row (L := [m.e, #[.cells #[.int .i64 d0, .slice a k cap] 32], m1.e, rbk vk se, m0.e, #[.cells #[.int .i64 0, .slice none 0 0] 32]]) (k := p9.n) hs9 _ rfl); clear hs9))
              | (go_at_call 51; ((with_reducible refine (equal_any v u9 l pl _ (HV.out.more (more_wd _ _ _)) HU.out).mono ?_); rintro e w1 ⟨rfl, rfl⟩)))
            have HRF := Lib.hid (rdrow_of_row (L := [#[.cells #[.int .i64 d0, .slice a k cap] 32], m1.e, rbk vk se, m0.e, #[.cells #[.int .i64 d0, .slice a k cap] 32]]) (k := 0) HROW.out)
            refine bodyPost_ret (v := .tuple #[.agg #[.int .i64 d0, .slice a k cap], .int .i64 0]) (by simp [results, Try.results23, go_sem]) rfl ⟨a, cap, by rw [HX.out, rdRows_len], ?_, more_wd _ _ _, by rw [HX.out]; exact from_row HROW.out (rdRows_len _ _ _)⟩
            rw [HX.out]
            refine (RowAt.of_rd (cap := cap) ?_ : VRowsAt (wd w [m.e, #[.cells #[.int .i64 d0, .slice a k cap] 32], m1.e, rbk vk se, m0.e, #[.cells #[.int .i64 d0, .slice a k cap] 32]] 0) a (rdRows k l2 q2)).more (more_cons (more_same _ _ _ _))
            rw [rdRows_len]; exact HRF.out
          · have HNB := Lib.hid (HNO2.out (by intro h; exact hpl (congrArg Prod.fst h).symm))
            subst hpe
            have hdec : decide (l = pl) = false := decide_eq_false hpl
            clear hpl
            go_wp2_with (first
              | (go_at_call 21; ((with_reducible refine (HPUT.out a cap _ (HRA.out _)).mono ?_); rintro e w2 ⟨u9, rfl, hm9⟩; obtain ⟨p9, rfl, hs9⟩ := hm9.wd; clear hm9; have HU := Lib.hid (RB.of_row (L := [m.e, #[.cells #[.int .i64 d0, .slice a k cap] 32], m1.e, rbk vk se, m0.e, #[.cells #[.int .i64 0, .slice none 0 0] 32]]) (k := p9.n) hs9 _ rfl); clear hs9))
              | (go_at_call 51; ((with_reducible refine (equal_any v u9 l pl _ (HV.out.more (more_wd _ _ _)) HU.out).mono ?_); rintro e w1 ⟨rfl, rfl⟩)))
            exact bodyPost_ret (v := .tuple #[.agg #[.int .i64 0, .slice none 0 0], .int .i64 4]) (by simp [results, Try.results23, go_sem]) rfl (vwret_no HNB.out rfl)
        · have HNB := Lib.hid (HNO2.out (by intro h; exact hpe (congrArg Prod.snd h)))
          have hne : (pe == 0) = false := by rw [beq_eq_false_iff_ne]; exact hpe
          go_wp2_with (first
            | (go_at_call 21; ((with_reducible refine (HPUT.out a cap _ (HRA.out _)).mono ?_); rintro e w2 ⟨u9, rfl, hm9⟩; obtain ⟨p9, rfl, hs9⟩ := hm9.wd; clear hm9; have HU := Lib.hid (RB.of_row (L := [m.e, #[.cells #[.int .i64 d0, .slice a k cap] 32], m1.e, rbk vk se, m0.e, #[.cells #[.int .i64 0, .slice none 0 0] 32]]) (k := p9.n) hs9 _ rfl); clear hs9))
            | (go_at_call 51; ((with_reducible refine (equal_any v u9 l pl _ (HV.out.more (more_wd _ _ _)) HU.out).mono ?_); rintro e w1 ⟨rfl, rfl⟩)))
          all_goals exact bodyPost_ret (v := .tuple #[.agg #[.int .i64 0, .slice none 0 0], .int .i64 4]) (by simp [results, Try.results23, go_sem]) rfl (vwret_no HNB.out rfl)
end Go.Proofs.Ytlanghikmccmbaa
