/- Routes: Split's walk. -/
import Derived.Test.YtmbmibinnjfbdaaGreatRB
import Derived.Test.YtmbmibinnjfbdaaGreatMF
import Derived.Test.YtmbmibinnjfbdaaGreatRE
namespace Go.Proofs.YtmbmibinnjfbdaaGreat
open Go.ChangeShapes Go.WideShapes Go.ChangeAt Go.RowKit
set_option linter.unusedVariables false
set_option linter.unusedSimpArgs false
theorem kept_sz {k : Nat} (s : { Y : Array Obj // Y.size = k }) : s.1.size = k := s.2
attribute [local go_sem] kept_sz
theorem rows_slice {B : Nat} {S : List Nat} {m : Array Obj} {VS : List Value} {v : Value} {xs : List (List Rec)} {T : Nat} (h : Rows B S m (VS.set T v) xs) (hT : T < (VS.set T v).length) : ∃ a n c, v = Value.slice a n c := by
  have hx : T < xs.length := by rw [← h.len]; exact hT
  have hr := h.row T v xs[T] (by rw [List.getElem?_set]; simp at hT; simp [hT]) (List.getElem?_eq_getElem hx)
  rcases hr.2 with ⟨rfl, _⟩ | ⟨j, cap, cur, rfl, _⟩
  · exact ⟨_, _, _, rfl⟩
  · exact ⟨_, _, _, rfl⟩
set_option maxRecDepth 100000 in
set_option maxHeartbeats 8000000 in
theorem split_any (a : Option Addr) (cap : Nat) (l : List Rec) (parts turn : Int) (w : World) (ha : RecsAt w a l) (hl : l.length ≤ 1000000) (hk : ∀ x ∈ l, x.key.length ≤ 1099511627776) :
    Calls Tryz.prog 6 #[.slice a l.length cap, .int .i64 parts, .int .i64 turn] w fun e w' => SplitRet w w' e (manyF parts).toNat (splitF (manyF parts) l (max 0 turn % manyF parts, List.replicate (manyF parts).toNat [])).1 ((splitF (manyF parts) l (max 0 turn % manyF parts, List.replicate (manyF parts).toNat [])).2.map numF) := by
  have HA := Lib.hid ha
  have HK := Lib.hid hk
  clear ha hk
  obtain ⟨P, hP⟩ : ∃ P : Nat, manyF parts = (P : Int) := ⟨(manyF parts).toNat, by have := manyF_in parts; omega⟩
  obtain ⟨p0, p1⟩ := manyF_in parts
  rw [hP] at p0 p1
  have HMP := Lib.hid hP
  have HM : Hid (∀ W : World, Calls Tryz.prog 13 #[.int .i64 parts] W fun e w' => e = .returned (.int .i64 (P : Int)) ∧ W = w') := Lib.hid fun W => by rw [← hP]; exact many_any parts W
  rw [hP, Int.toNat_natCast]
  clear hP
  have hST0 := splitF_len P l (max 0 turn % P, List.replicate P [])
  have hST1 : ∀ y ∈ (splitF P l (max 0 turn % P, List.replicate P [])).2, y.length ≤ 1000000 := fun y hy => by
    have h1 := splitF_sub P 0 l (max 0 turn % P, List.replicate P []) (fun z hz => by rw [List.eq_of_mem_replicate hz]; exact Nat.le_refl _) y hy
    omega
  rw [List.length_replicate] at hST0
  obtain ⟨⟨TT, XS⟩, hST⟩ : ∃ ST : Int × List (List Rec), splitF P l (max 0 turn % P, List.replicate P []) = ST := ⟨_, rfl⟩
  have HST := Lib.hid hST
  rw [hST] at hST0 hST1 ⊢
  have HXL := Lib.hid hST0
  have HXM := Lib.hid hST1
  clear hST hST0 hST1
  dsimp only
  refine calls_wd ?_
  go_enter Tryz.func6, Tryz.ntmps6
  go_wp2_with (first
    | (go_at_call 13; ((with_reducible refine (HM.out _).mono ?_); rintro e w1 ⟨rfl, rfl⟩))
    | (show wpList _ _ _ (⟨_, .makeSlice _ _ _, _, _, _, _⟩ :: _) _ _; refine at_make rfl _ P rfl rfl (by omega) ?_))
  all_goals
    go_loopw [35] (fun i wr => ∃ (k : Nat) (m : Ext) (VS : List Value), k ≤ l.length ∧ i = .int .i64 k ∧
      Rows w.heap.size (shape [#[.cells VS.toArray 22], #[.cells #[.int .i64 (P : Int), .int .i64 (splitF P (l.take k) (max 0 turn % P, List.replicate P [])).1] 50]]) m.e VS (splitF P (l.take k) (max 0 turn % P, List.replicate P [])).2 ∧
      wr = wd w [m.e, #[.cells VS.toArray 22], #[.cells #[.int .i64 (P : Int), .int .i64 (splitF P (l.take k) (max 0 turn % P, List.replicate P [])).1] 50]] m.n) (fun i _ => l.length - (intOf i).toNat)
  case atStart =>
    have e0 : max 0 turn = turn := by omega
    exact ⟨0, ⟨#[], w.drawn⟩, List.replicate P (Value.slice Option.none 0 0), Nat.zero_le _, rfl, Rows.start _ _ _ _, by rw [List.take_zero]; show _ = wd w (#[] :: _) _; rw [wd_empty, e0]; rfl⟩
  case atStart =>
    have e0 : max 0 turn % (P : Int) = 0 := by rw [show max 0 turn = 0 by omega]; rfl
    exact ⟨0, ⟨#[], w.drawn⟩, List.replicate P (Value.slice Option.none 0 0), Nat.zero_le _, rfl, Rows.start _ _ _ _, by rw [List.take_zero]; show _ = wd w (#[] :: _) _; rw [wd_empty, e0]; rfl⟩
  all_goals
    obtain ⟨k, m, VS, hk, rfl, hR, rfl⟩ := hrel
    have hb0 := splitF_turn P p0 p1 (l.take k) (max 0 turn % P, List.replicate P []) ⟨Int.emod_nonneg _ (by omega), Int.emod_lt_of_pos _ (by omega)⟩
    have hlen := splitF_len P (l.take k) (max 0 turn % P, List.replicate P [])
    rw [List.length_replicate] at hlen
    have hmost : ∀ y ∈ (splitF P (l.take k) (max 0 turn % P, List.replicate P [])).2, y.length ≤ 1000000 := fun y hy => by
      have h1 := splitF_sub P 0 (l.take k) (max 0 turn % P, List.replicate P []) (fun z hz => by rw [List.eq_of_mem_replicate hz]; exact Nat.le_refl _) y hy
      rw [List.length_take] at h1; omega
    by_cases hlt : k < l.length
    · obtain ⟨x, hx⟩ : ∃ x, l[k]? = some x := ⟨_, List.getElem?_eq_getElem hlt⟩
      have HT : Hid (splitF P (l.take (k + 1)) (max 0 turn % P, List.replicate P []) = ((goF P (splitF P (l.take k) (max 0 turn % P, List.replicate P [])).1 x).2, (splitF P (l.take k) (max 0 turn % P, List.replicate P [])).2.modify (goF P (splitF P (l.take k) (max 0 turn % P, List.replicate P [])).1 x).1.toNat fun y => y ++ [x])) := Lib.hid (by
        rw [List.take_add_one, hx]; exact splitF_snoc _ _ _ _)
      obtain ⟨bb, off, rfl, hb, c0, c1, c2, c3, c4, c5⟩ := recs_at HA.out k x hx
      have hkey := HK.out x (List.mem_of_getElem? hx)
      clear hx
      generalize splitF P (l.take k) (max 0 turn % P, List.replicate P []) = st at *
      obtain ⟨t, xs⟩ := st
      obtain ⟨xd, xt, xk, xkey, xdead, xval⟩ := x
      simp only at hmost
      simp only at hb0 hlen c0 c1 c2 c3 c4 c5 hkey
      obtain ⟨t0, t1⟩ := hb0
      cases xk
      · obtain ⟨T, rfl⟩ : ∃ T : Nat, t = (T : Int) := ⟨t.toNat, by omega⟩
        obtain ⟨v, hv⟩ : ∃ v, VS[T]? = some v := ⟨_, List.getElem?_eq_getElem (by rw [hR.len, hlen]; omega)⟩
        obtain ⟨y, hy⟩ : ∃ y, xs[T]? = some y := ⟨_, List.getElem?_eq_getElem (by rw [hlen]; omega)⟩
        have hvl := Lib.hid (List.getElem?_eq_some_iff.1 hv).1
        have hyl := hmost y (List.mem_of_getElem? hy)
        have HM := Lib.hid hmost
        clear hmost
        have hv2 : VS.toArray[T]? = some v := by rw [List.getElem?_toArray]; exact hv
        have HR : Hid (Rows w.heap.size [1, 1] m.e VS xs) := Lib.hid hR
        have HLEN := Lib.hid hlen
        clear hR hlen
        go_wp2
        refine wp_region_mixg (fun (s : Ext × { Y : Array Obj // Y.size = m.e.size }) => wd w [s.1.e, #[Obj.cells #[Value.int IntKind.i64 xd, Value.int IntKind.i64 xt, Value.bool false, Value.string (str xkey), Value.bool xdead, Value.string (str xval)] 30], s.2.1, #[Obj.cells VS.toArray 22], #[Obj.cells #[Value.int IntKind.i64 (P : Int), Value.int IntKind.i64 (((T : Int) + 1) % (P : Int))] 50]] s.1.n) ((⟨#[Obj.cells #[Value.int IntKind.i64 xd, Value.int IntKind.i64 xt, Value.bool false, Value.string (str xkey), Value.bool xdead, Value.string (str xval)] 30], m.n + 1⟩, ⟨m.e, rfl⟩)) [0, 1, 2, 3, 4, 5, 6] [7, 8, 9] 10 _ [true, true, true, true, true, true, true] [false, false, false, false, false, false, false, true, true, true] rfl rfl ⟨rfl, rfl⟩ (by kernel_rfl) (by kernel_rfl) (fun _ _ d _ _ h => by cases d <;> exact h) ?_
        apply Exists.intro
        refine ⟨?_, ?_⟩
        · intro E
          simp only [sel_t, sel_f, sel_n]
          repeat (go_big_quiet_step ((fail)))
          exact wpQuiet_nil rfl
        simp only [sel_t, sel_f, sel_n, loudR_cons, loudR_nil]
        go_wp2
        refine ⟨⟨(⟨_ ++ #[_], _⟩, ⟨m.e, rfl⟩), by rw [wd_merge]⟩, ?_⟩
        rw [loudR_cons]
        go_wp2_with (first
          | (at_builtin; refine at_append_on [1, 1] rfl rfl _ _ rfl HR.out T v y hv hy rfl ⟨xd, xt, false, xkey, xdead, xval⟩ _ 1 1 m.e.size rfl rfl rfl hyl _ rfl ?_; intro v9 e9 Y9 n9 h9; have HN := Lib.hid h9; clear h9))
        obtain ⟨a9, l9, c9, rfl⟩ := rows_slice HN.out (by rw [List.length_set]; exact hvl.out)
        refine ⟨(by first | exact ⟨(⟨e9, n9⟩, Y9), rfl⟩ | exact ⟨⟨e9, n9⟩, Y9.1, Y9.2, rfl⟩), ?_⟩
        rw [loudR_cons]
        go_wp2
        refine ⟨(by first | exact ⟨(⟨e9, n9⟩, Y9), rfl⟩ | exact ⟨⟨e9, n9⟩, Y9.1, Y9.2, rfl⟩), ?_⟩
        rw [loudR_nil]
        go_wp2
        refine ⟨trivial, ?_⟩
        go_wp2
        go_roundw
        case rel =>
          have HT2 : splitF P (l.take (k + 1)) (max 0 turn % P, List.replicate P []) = (((T : Int) + 1) % (P : Int), xs.set T (y ++ [(⟨xd, xt, false, xkey, xdead, xval⟩ : Rec)])) := HT.out.trans (Prod.ext rfl (modify_set xs T y (fun z => z ++ [(⟨xd, xt, false, xkey, xdead, xval⟩ : Rec)]) hy))
          refine ⟨k + 1, ⟨Y9.1 ++ (#[Obj.cells #[Value.int IntKind.i64 xd, Value.int IntKind.i64 xt, Value.bool false, Value.string (str xkey), Value.bool xdead, Value.string (str xval)] 30] ++ e9), n9⟩, VS.set T (.slice a9 l9 c9), by omega, by go_num, ?_, ?_⟩
          · rw [HT2]; exact HN.out
          · rw [HT2]; exact wd_merge3 _ _ _ _ _ _
        case measure => simp [intOf]; omega
      · obtain ⟨o0, o1⟩ := ofF_in xkey P
        obtain ⟨T, hT⟩ : ∃ T : Nat, ofF xkey P = (T : Int) := ⟨(ofF xkey P).toNat, by omega⟩
        have hmp : manyF (P : Int) = P := by unfold manyF; omega
        rw [hmp, hT] at o1
        have HTE := Lib.hid hT
        have HO : Hid (∀ W : World, Calls Tryz.prog 11 #[.string (str xkey), .int .i64 (P : Int)] W fun e w' => e = .returned (.int .i64 (T : Int)) ∧ More W w') := Lib.hid (fun W => by rw [← hT]; exact of_any xkey P hkey W)
        clear hT hmp o0
        obtain ⟨v, hv⟩ : ∃ v, VS[T]? = some v := ⟨_, List.getElem?_eq_getElem (by rw [hR.len, hlen]; omega)⟩
        obtain ⟨y, hy⟩ : ∃ y, xs[T]? = some y := ⟨_, List.getElem?_eq_getElem (by rw [hlen]; omega)⟩
        have hvl := Lib.hid (List.getElem?_eq_some_iff.1 hv).1
        have hyl := hmost y (List.mem_of_getElem? hy)
        have HM := Lib.hid hmost
        clear hmost
        have hv2 : VS.toArray[T]? = some v := by rw [List.getElem?_toArray]; exact hv
        have HR : Hid (Rows w.heap.size [1, 1] m.e VS xs) := Lib.hid hR
        have HLEN := Lib.hid hlen
        clear hR hlen
        go_wp2
        refine wp_region_wd (by kernel_rfl) (by kernel_rfl) ?_
        repeat (go_big_quiet_step ((first | (go_at_call 11; with_reducible exact Calls.wd_of (HO.out _)))))
        refine wpQuiet_nil ?_
        rintro _ ⟨mx, rfl⟩
        go_wp2
        rw [wd_merge]
        generalize (#[Obj.cells #[Value.int IntKind.i64 xd, Value.int IntKind.i64 xt, Value.bool true, Value.string (str xkey), Value.bool xdead, Value.string (str xval)] 30] ++ mx.e : Array Obj) = E0
        refine wp_region_mixg (fun (s : Ext × { Y : Array Obj // Y.size = m.e.size }) => wd w [s.1.e, #[Obj.cells #[Value.int IntKind.i64 xd, Value.int IntKind.i64 xt, Value.bool true, Value.string (str xkey), Value.bool xdead, Value.string (str xval)] 30], s.2.1, #[Obj.cells VS.toArray 22], #[Obj.cells #[Value.int IntKind.i64 (P : Int), Value.int IntKind.i64 t] 50]] s.1.n) ((⟨_, _⟩, ⟨m.e, rfl⟩)) [0, 1, 2, 3, 4, 5, 6] [7, 8, 9] 10 _ [true, true, true, true, true, true, true] [false, false, false, false, false, false, false, true, true, true] rfl rfl ⟨rfl, rfl⟩ (by kernel_rfl) (by kernel_rfl) (fun _ _ d _ _ h => by cases d <;> exact h) ?_
        apply Exists.intro
        refine ⟨?_, ?_⟩
        · intro E
          simp only [sel_t, sel_f, sel_n]
          repeat (go_big_quiet_step ((fail)))
          exact wpQuiet_nil rfl
        simp only [sel_t, sel_f, sel_n, loudR_cons, loudR_nil]
        go_wp2
        refine ⟨⟨(⟨_ ++ #[_], _⟩, ⟨m.e, rfl⟩), by rw [wd_merge]⟩, ?_⟩
        rw [loudR_cons]
        go_wp2_with (first
          | (at_builtin; refine at_append_on [1, 1] rfl rfl _ _ rfl HR.out T v y hv hy rfl ⟨xd, xt, true, xkey, xdead, xval⟩ _ 1 E0.size m.e.size rfl rfl rfl hyl _ rfl ?_; intro v9 e9 Y9 n9 h9; have HN := Lib.hid h9; clear h9))
        obtain ⟨a9, l9, c9, rfl⟩ := rows_slice HN.out (by rw [List.length_set]; exact hvl.out)
        refine ⟨(by first | exact ⟨(⟨e9, n9⟩, Y9), rfl⟩ | exact ⟨⟨e9, n9⟩, Y9.1, Y9.2, rfl⟩), ?_⟩
        rw [loudR_cons]
        go_wp2
        refine ⟨(by first | exact ⟨(⟨e9, n9⟩, Y9), rfl⟩ | exact ⟨⟨e9, n9⟩, Y9.1, Y9.2, rfl⟩), ?_⟩
        rw [loudR_nil]
        go_wp2
        refine ⟨trivial, ?_⟩
        go_wp2
        go_roundw
        case rel =>
          have HT2 : splitF P (l.take (k + 1)) (max 0 turn % P, List.replicate P []) = (t, xs.set T (y ++ [(⟨xd, xt, true, xkey, xdead, xval⟩ : Rec)])) := HT.out.trans (Prod.ext rfl (by show xs.modify (ofF xkey P).toNat _ = _; rw [HTE.out]; exact modify_set xs T y (fun z => z ++ [(⟨xd, xt, true, xkey, xdead, xval⟩ : Rec)]) hy))
          refine ⟨k + 1, ⟨Y9.1 ++ (#[Obj.cells #[Value.int IntKind.i64 xd, Value.int IntKind.i64 xt, Value.bool true, Value.string (str xkey), Value.bool xdead, Value.string (str xval)] 30] ++ e9), n9⟩, VS.set T (.slice a9 l9 c9), by omega, by go_num, ?_, ?_⟩
          · rw [HT2]; exact HN.out
          · rw [HT2]; exact wd_merge3 _ _ _ _ _ _
        case measure => simp [intOf]; omega
    · have hkl : l.take k = l := List.take_of_length_le (by omega)
      rw [hkl, HST.out] at hR
      rw [hkl, HST.out]
      clear hb0 hlen hmost hkl
      have HR0 := Lib.hid hR
      clear hR
      go_wp2
      go_loopw [55] (fun i wr => ∃ (k : Nat) (m : Ext) (VS : List Value), k ≤ P ∧ i = .int .i64 k ∧ Rows w.heap.size [1, 1] m.e VS (nallL k XS) ∧
        wr = wd w [m.e, #[.cells VS.toArray 22], #[.cells #[.int .i64 (P : Int), .int .i64 TT] 50]] m.n) (fun i _ => P - (intOf i).toNat)
      case atStart => exact ⟨0, m, VS, Nat.zero_le _, rfl, by rw [nallL_zero]; exact HR0.out, by first | rfl | trivial⟩
      case round =>
        clear HR0
        obtain ⟨k2, m2, VS2, hk2, rfl, hR2, rfl⟩ := hrel
        have hlen2 : VS2.length = P := by rw [hR2.len, nallL_len]; exact HXL.out
        by_cases hlt2 : k2 < P
        · obtain ⟨x, hx⟩ : ∃ x, XS[k2]? = some x := ⟨_, List.getElem?_eq_getElem (by have := HXL.out; omega)⟩
          obtain ⟨v, hv⟩ : ∃ v, VS2[k2]? = some v := ⟨_, List.getElem?_eq_getElem (by rw [hlen2]; exact hlt2)⟩
          obtain ⟨a1, c1, rfl, hrd⟩ := Rows.rd (L := [#[.cells VS2.toArray 22], #[.cells #[.int .i64 (P : Int), .int .i64 TT] 50]]) hR2 k2 v x hv (nallL_get k2 XS x hx)
          have hxm := HXM.out x (List.mem_of_getElem? hx)
          have HN := Lib.hid (fun n => numbered_any a1 c1 x (wd w [m2.e, #[.cells VS2.toArray 22], #[.cells #[.int .i64 (P : Int), .int .i64 TT] 50]] n) (hrd n) hxm)
          have hv2 : VS2.toArray[k2]? = some (.slice a1 x.length c1) := by rw [List.getElem?_toArray]; exact hv
          have HV := Lib.hid hv
          have HR2 : Hid (Rows w.heap.size [1, 1] m2.e VS2 (nallL k2 XS)) := Lib.hid hR2
          have HS := Lib.hid (nallL_step k2 XS x hx)
          obtain ⟨N, hN⟩ : ∃ N, x.length = N := ⟨_, rfl⟩
          have HNL := Lib.hid ((numF_len x).trans hN)
          rw [hN] at HN hv2
          have HLN2 := Lib.hid hlen2
          clear hR2 hv hx hrd hxm hN hlen2
          go_wp2_with (first | (go_at_call 15; ((with_reducible refine (HN.out _).mono ?_); rintro e w1 ⟨x0, rfl, x1⟩; obtain ⟨m9, rfl, hr9⟩ := x1.wd; clear x1; obtain ⟨a9, c9, rfl⟩ := rowIn_slice hr9)))
          go_roundw
          case rel =>
            refine ⟨k2 + 1, ⟨m2.e ++ m9.e, m9.n⟩, VS2.set k2 (.slice a9 N c9), by omega, by go_num, ?_, ?_⟩
            · rw [HS.out]; exact Rows.put HR2.out k2 _ _ (numF x) HV.out (by rw [HNL.out]; exact hr9)
            · exact wd_merge _ _ _ _ _
          case measure => simp [intOf]; omega
        · have HR2 : Hid (Rows w.heap.size [1, 1] m2.e VS2 (nallL k2 XS)) := Lib.hid hR2
          have HLN2 := Lib.hid hlen2
          clear hR2 hlen2
          go_wp2
          refine wp_region_wd (by kernel_rfl) (by kernel_rfl) ?_
          repeat (go_big_quiet_step ((fail)))
          refine wpQuiet_nil ?_
          rintro _ ⟨mx, rfl⟩
          go_wp2
          go_ret2
          have hh := HR2.out
          rw [nallL_all XS k2 (by have := HXL.out; omega)] at hh
          rw [wd_merge]
          exact ⟨_, rfl, lists_of_rows (R := #[.cells #[.int .i64 (P : Int), .int .i64 TT] 50]) (hh.more mx.e), more_wd _ _ _⟩
end Go.Proofs.YtmbmibinnjfbdaaGreat
