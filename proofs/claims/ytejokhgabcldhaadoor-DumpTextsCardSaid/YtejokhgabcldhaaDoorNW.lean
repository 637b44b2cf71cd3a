/- dump: record. -/
import Derived.Test.YtejokhgabcldhaaDoorNU
import Derived.Test.YtejokhgabcldhaaDoorNF
import Derived.Test.YtejokhgabcldhaaDoorNI
import Derived.Test.YtejokhgabcldhaaDoorNL
import Derived.Test.YtejokhgabcldhaaDoorNM
import Derived.Test.YtejokhgabcldhaaDoorMA
namespace Go.Proofs.YtejokhgabcldhaaDoor
open Go.ChangeShapes Go.WideShapes Go.ChangeAt Go.RowKit
set_option linter.unusedVariables false
set_option linter.unusedSimpArgs false

theorem recOf_short {s : List UInt8} (h : (splitC 32 s).length < 5) : recOf s = (Rec.zero, false) := by
  unfold recOf
  split
  · next hs => rw [hs] at h; simp only [List.length_cons] at h; omega
  · rfl
theorem recOf_long {s w1 w2 w3 w4 : List UInt8} (h1 : (splitC 32 s)[1]? = some w1) (h2 : (splitC 32 s)[2]? = some w2) (h3 : (splitC 32 s)[3]? = some w3) (h4 : (splitC 32 s)[4]? = some w4) :
    recOf s = (recAs w1 w2 w3 (unquote w4).1 (unquote (joinC 32 ((splitC 32 s).drop 5))).1, recOk w3 (unquote w4).2 (unquote (joinC 32 ((splitC 32 s).drop 5))).2 && decide (recLine (recAs w1 w2 w3 (unquote w4).1 (unquote (joinC 32 ((splitC 32 s).drop 5))).1) = s)) := by
  unfold recOf
  split
  · next w0 v1 v2 v3 v4 ws hs =>
    rw [hs] at h1 h2 h3 h4
    simp at h1 h2 h3 h4
    subst h1 h2 h3 h4
    rw [hs]; rfl
  · next hs =>
    exfalso
    match hsp : splitC 32 s, h1, h2, h3, h4 with
    | [], h, _, _, _ => simp at h
    | [_], h, _, _, _ => simp at h
    | [_, _], _, h, _, _ => simp at h
    | [_, _, _], _, _, h, _ => simp at h
    | [_, _, _, _], _, _, _, h => simp at h
    | a :: b :: c :: d :: e :: r, _, _, _, _ => exact hs _ _ _ _ _ _ hsp
/-- A record and yes or no, handed back. -/
structure RecordRet (w w' : World) (x : Ending) (g : Rec × Bool) : Prop where
  out : x = .returned (.tuple #[.agg #[.int .i64 g.1.delta, .int .i64 g.1.time, .bool g.1.keyed, .string (str g.1.key), .bool g.1.dead, .string (str g.1.value)], .bool g.2]) ∧ More w w'
theorem sz_str (w : World) : (Go.sizeOf 9).run Tryd.prog w = .ok 1 w := by
  obtain ⟨i0, hi, hz0, hz1, hz2⟩ := info_parts info_str
  simp [Go.sizeOf, typeInfo, hi, hz1]
/-- 'ws[5:]'. -/
theorem cut_strs (p N : Nat) (h : 5 ≤ N) : ∃ a5, (∀ W, (Instr.slice 29 (.slice (some ⟨p, 0, none⟩) N N) (some (.int .i64 5)) none none).run Tryd.prog W = .ok (.slice a5 (N - 5) (N - 5)) W) ∧
    ∀ (W : World) (ws : List (List UInt8)), ws.length = N → StrsAt W (some ⟨p, 0, none⟩) ws → StrsAt W a5 (ws.drop 5) := by
  refine ⟨if N = 5 then some ⟨p, 0, none⟩ else some ⟨p, 5, none⟩, fun W => ?_, fun W ws hN hs => ?_⟩
  · have ht : Tryd.prog.underlying 29 = some (.slice (Tryd.prog.elem 29)) := by simp [Program.elem, Tryd.underlying29]
    have he : Tryd.prog.elem 29 = 9 := by simp [Program.elem, Tryd.underlying29]
    have hz : (Go.sizeOf 9).run Tryd.prog W = .ok 1 W := by
      exact sz_str W
    rw [run_slice_l W _ _ _ _ ht .i64 _ (by decide) (by omega), he, hz]
    simp only [Result.andThen, sliced]
    by_cases h5 : N = 5
    · subst h5; rfl
    · rw [if_neg h5]
      simp only [show (5 : Int).toNat = 5 from rfl]
      rw [if_neg (by omega)]
      simp [Addr.add]
  · subst hN
    refine ⟨fun hne => ?_⟩
    have h6 : 5 < ws.length := by
      rcases Nat.lt_or_ge 5 ws.length with h | h
      · exact h
      · exact absurd (List.drop_eq_nil_of_le h) hne
    rw [if_neg (by omega)]
    obtain ⟨b, off, he, hb, hc⟩ := hs.out (by intro h; subst h; simp at h6)
    cases he
    refine ⟨p, 5, rfl, hb, fun i hi => ?_⟩
    have := hc (5 + i) (by rw [List.length_drop] at hi; omega)
    rw [Nat.zero_add] at this
    rw [this]
    have e : ws.flatMap strCell = (ws.take 5).flatMap strCell ++ (ws.drop 5).flatMap strCell := by rw [← List.flatMap_append, List.take_append_drop]
    have l5 : ((ws.take 5).flatMap strCell).length = 5 := by rw [flat_len strCell 1 strCell_len, List.length_take]; omega
    rw [e, List.getElem?_append_right (by omega), l5]
    congr 1; omega
/-- A record laid alone, as a slice. -/
theorem lit_rec (w : World) (L : List (Array Obj)) (n : Nat) (r : Rec) : RecsAt (wd w (#[.cells #[.int .i64 r.delta, .int .i64 r.time, .bool r.keyed, .string (str r.key), .bool r.dead, .string (str r.value)] 71] :: L) n) (some ⟨sz w.heap.size (shape L), 0, none⟩) [r] := by
  refine ⟨fun _ => ⟨_, 0, rfl, ?_, fun i hi => ?_⟩⟩
  · rw [wd_size, shape_cons]; simp only [sz]; show _ < _ + 1; omega
  · rw [Nat.zero_add, wd_cell w L n _ i _ _ _ (0, 0) rfl rfl]
    simp [recCells]
theorem line_one (r : Rec) (hf : RecFit r) (a : Option Addr) (cap : Nat) (W : World) (h : RecsAt W a [r]) :
    Calls Tryd.prog 15 #[.agg #[.int .i64 0, .int .i64 0, .int .i64 0, .int .i64 0, .int .i64 0, .slice a 1 cap], .int .i64 0] W fun x w' => x = .returned (.string (str (recLine r))) ∧ More W w' :=
  line_in ⟨0, 0, 0, 0, 0, [r]⟩ a cap 0 r W h rfl (by show 1 ≤ maxLen; decide) hf
theorem more_up4 (w : World) (a b c : Array Obj) (L : List (Array Obj)) (d : Array Obj) (k n : Nat) : More (wd w L k) (wd w (d :: c :: b :: a :: L) n) := (more_same w L k n).trans ⟨a ++ (b ++ (c ++ d)), n, by rw [wd_plus, wd_merge4]⟩
theorem str_eq (a b : List UInt8) : ((str a).toList == (str b).toList) = decide (a = b) := by
  rw [str_toList, str_toList, Bool.eq_iff_iff, beq_iff_eq, decide_eq_true_iff]
set_option maxRecDepth 100000 in
set_option maxHeartbeats 12800000 in
theorem record_any (s : List UInt8) (w : World) (hs : s.length ≤ 65536) : Calls Tryd.prog 56 #[.string (str s)] w fun x w' => RecordRet w w' x (recOf s) := by
  have HSP : Hid (∀ L n, Calls Tryd.prog 37 #[.string (str s), .string { data := #[32] }] (wd w L n) fun x w' => x = .returned (.slice (some ⟨sz w.heap.size (shape L), 0, none⟩) (splitC 32 s).length (splitC 32 s).length) ∧ w' = wd w (#[.cells ((splitC 32 s).flatMap strCell).toArray 9] :: L) n) := Lib.hid (fun L n => split_wd s 32 w L n (by omega))
  by_cases h5 : (splitC 32 s).length < 5
  · have HR := Lib.hid (recOf_short h5)
    obtain ⟨ws, hws⟩ : ∃ ws, splitC 32 s = ws := ⟨_, rfl⟩
    rw [hws] at HSP h5
    obtain ⟨C, hC⟩ : ∃ C, (ws.flatMap strCell).toArray = C := ⟨_, rfl⟩
    rw [hC] at HSP
    obtain ⟨N, hN⟩ : ∃ N, ws.length = N := ⟨_, rfl⟩
    rw [hN] at HSP h5
    clear hws hC hN
    refine calls_wd ?_
    go_enter Tryd.func56, Tryd.ntmps56
    go_wp2_with (first | (go_at_call 37; ((with_reducible refine (HSP.out _ _).mono ?_); rintro e w1 ⟨rfl, rfl⟩)))
    refine bodyPost_ret (v := .tuple #[.agg #[.int .i64 0, .int .i64 0, .bool false, .string { data := #[] }, .bool false, .string { data := #[] }], .bool false]) (by simp [results, Tryd.results56, go_sem]) rfl ?_
    exact ⟨by rw [HR.out]; rfl, more_wd _ _ _⟩
  · have HEACH := splitC_each 32 s
    have hjl := joinC_le 32 s 5
    have hcl := splitC_len_le 32 s
    obtain ⟨v1, hv1⟩ : ∃ x, (splitC 32 s)[1]? = some x := ⟨_, List.getElem?_eq_getElem (by omega)⟩
    obtain ⟨v2, hv2⟩ : ∃ x, (splitC 32 s)[2]? = some x := ⟨_, List.getElem?_eq_getElem (by omega)⟩
    obtain ⟨v3, hv3⟩ : ∃ x, (splitC 32 s)[3]? = some x := ⟨_, List.getElem?_eq_getElem (by omega)⟩
    obtain ⟨v4, hv4⟩ : ∃ x, (splitC 32 s)[4]? = some x := ⟨_, List.getElem?_eq_getElem (by omega)⟩
    have hr := recOf_long hv1 hv2 hv3 hv4
    have g1 := HEACH v1 (List.mem_of_getElem? hv1)
    have g2 := HEACH v2 (List.mem_of_getElem? hv2)
    have g4 := HEACH v4 (List.mem_of_getElem? hv4)
    obtain ⟨ws, hws⟩ : ∃ ws, splitC 32 s = ws := ⟨_, rfl⟩
    rw [hws] at HSP h5 hv1 hv2 hv3 hv4 hjl hcl hr
    have c1 := cells_row ws 1 v1 hv1
    have c2 := cells_row ws 2 v2 hv2
    have c3 := cells_row ws 3 v3 hv3
    have c4 := cells_row ws 4 v4 hv4
    have d1 := numD_range v1
    have d2 := numD_range v2
    have u4 := unquote_len v4
    have uj := unquote_len (joinC 32 (ws.drop 5))
    have H1 := Lib.hid (fun W => number_any v1 W (by omega))
    have H2 := Lib.hid (fun W => number_any v2 W (by omega))
    have HU := Lib.hid (fun W => unquote_any v4 W (by omega))
    have HV := Lib.hid (fun W => unquote_any (joinC 32 (ws.drop 5)) W (by omega))
    have HDROP := Lib.hid (show (ws.drop 5).length = ws.length - 5 by simp)
    have HJOIN := Lib.hid (fun (a : Option Addr) W (h : StrsAt W a (ws.drop 5)) => join_any a (ws.length - 5) (ws.drop 5) W h (by rw [HDROP.out]; omega) (by rw [HDROP.out]; omega) (by omega))
    rw [HDROP.out] at HJOIN
    have HSTRS := Lib.hid (fun L n => lit_strs w L n (ws.flatMap strCell).toArray 9 ws (by simp))
    unfold recAs recOk at hr
    obtain ⟨D1, hD1⟩ : ∃ D, numD v1 = D := ⟨_, rfl⟩
    obtain ⟨D2, hD2⟩ : ∃ D, numD v2 = D := ⟨_, rfl⟩
    obtain ⟨U, hU⟩ : ∃ U, unquote v4 = U := ⟨_, rfl⟩
    obtain ⟨V, hV⟩ : ∃ V, unquote (joinC 32 (ws.drop 5)) = V := ⟨_, rfl⟩
    rw [hD1] at H1 d1 hr
    rw [hD2] at H2 d2 hr
    rw [hU] at HU u4 hr
    rw [hV] at HV uj hr
    obtain ⟨J, hJ⟩ : ∃ J, joinC 32 (ws.drop 5) = J := ⟨_, rfl⟩
    rw [hJ] at HV HJOIN
    have hul : U.1.length ≤ 65536 := by omega
    have hvl : V.1.length ≤ 65536 := by rw [hJ] at uj hjl; omega
    obtain ⟨C, hC⟩ : ∃ C, (ws.flatMap strCell).toArray = C := ⟨_, rfl⟩
    rw [hC] at HSP c1 c2 c3 c4 HSTRS
    obtain ⟨N, hN⟩ : ∃ N, ws.length = N := ⟨_, rfl⟩
    rw [hN] at HSP h5 HDROP HJOIN
    have HN := Lib.hid hN
    obtain ⟨U1, U2⟩ := U
    obtain ⟨V1, V2⟩ := V
    dsimp only at *
    have HRR := Lib.hid hr
    clear HEACH hjl hcl hv1 hv2 hv3 hv4 g1 g2 g4 hws u4 uj hU hV hD1 hD2 hC hN hJ HDROP hr hs
    have h5' : 5 ≤ N := by omega

    by_cases hv : v3 = [118]
    · subst hv
      have hq0 : ((str [118]).toList == [118]) = true := by rw [str_toList]; rfl
      rw [if_pos rfl, if_pos (Or.inl rfl)] at HRR
      have HL := Lib.hid (line_one ⟨D1, D2, false, [], false, U1⟩ ⟨d1.1, by show D1 ≤ _; omega, d2.1, by show D2 ≤ _; omega, by simp <;> omega, by simp <;> omega⟩)
      obtain ⟨R, hR⟩ : ∃ R : Rec, ⟨D1, D2, false, [], false, U1⟩ = R := ⟨_, rfl⟩
      obtain ⟨RL, hRL⟩ : ∃ RL, recLine ⟨D1, D2, false, [], false, U1⟩ = RL := ⟨_, rfl⟩
      rw [hRL] at HL HRR
      clear hRL hR R
      have HLX : Hid (∀ L n S, shape L = S → Calls Tryd.prog 15 #[.agg #[.int .i64 0, .int .i64 0, .int .i64 0, .int .i64 0, .int .i64 0, .slice (some ⟨sz w.heap.size S, 0, none⟩) 1 1], .int .i64 0] (wd w (#[.cells #[.int .i64 D1, .int .i64 D2, .bool false, .string { data := #[] }, .bool false, .string (str U1)] 71] :: L) n) fun x w' => x = .returned (.string (str RL)) ∧ More (wd w (#[.cells #[.int .i64 D1, .int .i64 D2, .bool false, .string { data := #[] }, .bool false, .string (str U1)] 71] :: L) n) w') := Lib.hid (fun L n S hS => by subst hS; exact HL.out _ 1 _ (lit_rec w L n ⟨D1, D2, false, [], false, U1⟩))
      clear HL
      cases U2 with
      | true =>
        have HRR := Lib.hid (HRR.out)
        refine calls_wd ?_
        go_enter Tryd.func56, Tryd.ntmps56
        go_wp2_with (first | (go_at_call 37; ((with_reducible refine (HSP.out _ _).mono ?_); rintro e w1 ⟨rfl, rfl⟩)))
        refine wp_region_new [0, 1, 2, 3, 4, 5, 6, 7, 8] 9 5 [10] [true, true, true, true, true, true, true, true, true] [false, false, false, false, false, false, false, false, false, false, true] (fun b => .pointer (some ⟨b, 0, none⟩)) (.cells #[.int .i64 0, .int .i64 0, .bool false, .string { data := #[] }, .bool false, .string { data := #[] }] 71) ⟨rfl, rfl⟩ (by kernel_rfl) (by kernel_rfl) (fun _ _ d _ _ h => by cases d <;> exact h) ⟨_, _, _, _, rfl⟩ ?_
        apply Exists.intro
        refine ⟨?_, ?_, ?_⟩
        · intro E
          simp only [sel_t, sel_f, sel_n]
          repeat (go_big_quiet_step ((first | (go_at_call 54; with_reducible exact Calls.wd_of (H1.out _)) | (go_at_call 54; with_reducible exact Calls.wd_of (H2.out _)))))
          exact wpQuiet_nil rfl
        · intro o ho w0; obtain rfl := Option.some.inj ho; go_simp
        intro e0 m0
        simp only [sel_t, sel_f, sel_n, put_lit, List.set_cons_succ, List.set_cons_zero, shape_cons, shape_nil]
        go_wp2_with (first | (go_at_call 8; ((with_reducible refine (HU.out _).mono ?_); rintro e w1 hq; obtain ⟨rfl, x1, n1, rfl⟩ := hq.out)))
        refine wp_region_tree (fun (s : Ext × Array Value) => wd w [s.1.e, _, _, _, _, #[.cells s.2 71]] s.1.n) ((⟨_, _⟩, _)) [0, 1, 2, 3, 7] (.one 4 (.one 5 (.one 6 (.two 8 10 (.two 9 10 (.one 10 (.one 11 .done)) (.one 9 (.one 11 .done))) (.one 8 (.one 9 (.one 11 .done))))))) [true, true, true, true, false, false, false, true] (wd_drew _ _ _) rfl (by kernel_rfl) (by kernel_rfl) (fun _ _ d _ _ h => by cases d <;> exact h) ?_
        apply Exists.intro
        refine ⟨?_, ?_⟩
        · intro E
          simp only [sel_t, sel_f, sel_n]
          repeat (go_big_quiet_step ((fail)))
          exact wpQuiet_nil rfl
        refine louds_one [false, false, false, false, true] rfl ?_
        simp only [sel_t, sel_f, sel_n]
        go_wp2
        refine ⟨⟨(⟨_ ++ #[_], _⟩, _), by rw [wd_merge]⟩, ?_⟩
        refine louds_one [false, false, false, false, false, true] rfl ?_
        simp only [sel_t, sel_f, sel_n]
        go_wp2
        refine ⟨⟨(⟨_ ++ #[_], _⟩, _), by rw [wd_merge]⟩, ?_⟩
        refine louds_one [false, false, false, false, false, false, true] rfl ?_
        simp only [sel_t, sel_f, sel_n]
        go_wp2_with (first | (go_at_call 15; ((with_reducible refine Calls.mono (HLX.out _ _ _ ?_) ?_); (exact rfl); rintro e w1 ⟨rfl, x9, n9, rfl⟩)))
        refine ⟨⟨(⟨_ ++ (#[_] ++ x9), n9⟩, _), by rw [wd_merge3]⟩, ?_⟩
        refine louds_two [false, false, false, false, false, false, false, false, true] [false, false, false, false, false, false, false, false, false, false, true] rfl rfl ?_ ?_
        all_goals (simp only [sel_t, sel_f, sel_n])
        focus
          go_wp2
          refine ⟨⟨(⟨_ ++ (#[_] ++ x9), n9⟩, _), by rw [wd_merge3]⟩, ?_⟩
          refine louds_two [false, false, false, false, false, false, false, false, false, true] [false, false, false, false, false, false, false, false, false, false, true] rfl rfl ?_ ?_
          all_goals (simp only [sel_t, sel_f, sel_n])
          focus
            go_wp2
            refine ⟨⟨(⟨_ ++ (#[_] ++ x9), n9⟩, _), by rw [wd_merge3]⟩, ?_⟩
            refine louds_one [false, false, false, false, false, false, false, false, false, false, true] rfl ?_
            simp only [sel_t, sel_f, sel_n]
            go_wp2
            refine ⟨⟨(⟨_ ++ (#[_] ++ x9), n9⟩, _), by rw [wd_merge3]⟩, ?_⟩
            refine louds_one [false, false, false, false, false, false, false, false, false, false, false, true] rfl ?_
            simp only [sel_t, sel_f, sel_n]
            go_wp2
            refine ⟨⟨(⟨_ ++ (#[_] ++ x9), n9⟩, _), by rw [wd_merge3]⟩, ?_⟩
            refine louds_done ?_
            go_wp2
            refine bodyPost_ret (v := .tuple #[.agg #[.int .i64 D1, .int .i64 D2, .bool false, .string { data := #[] }, .bool false, .string (str U1)], .bool ((str RL).toList == (str s).toList)]) (by simp [results, Tryd.results56, go_sem]) rfl ?_
            exact ⟨by rw [HRR.out, ← str_eq]; rfl, more_wd _ _ _⟩
          focus
            go_wp2
            refine ⟨⟨(⟨_ ++ (#[_] ++ x9), n9⟩, _), by rw [wd_merge3]⟩, ?_⟩
            refine louds_one [false, false, false, false, false, false, false, false, false, true] rfl ?_
            simp only [sel_t, sel_f, sel_n]
            go_wp2
            refine ⟨⟨(⟨_ ++ (#[_] ++ x9), n9⟩, _), by rw [wd_merge3]⟩, ?_⟩
            refine louds_one [false, false, false, false, false, false, false, false, false, false, false, true] rfl ?_
            simp only [sel_t, sel_f, sel_n]
            go_wp2
            refine ⟨⟨(⟨_ ++ (#[_] ++ x9), n9⟩, _), by rw [wd_merge3]⟩, ?_⟩
            refine louds_done ?_
            go_wp2
            refine bodyPost_ret (v := .tuple #[.agg #[.int .i64 D1, .int .i64 D2, .bool false, .string { data := #[] }, .bool false, .string (str U1)], .bool ((str RL).toList == (str s).toList)]) (by simp [results, Tryd.results56, go_sem]) rfl ?_
            exact ⟨by rw [HRR.out, ← str_eq]; rfl, more_wd _ _ _⟩
        focus
          go_wp2
          refine ⟨⟨(⟨_ ++ (#[_] ++ x9), n9⟩, _), by rw [wd_merge3]⟩, ?_⟩
          refine louds_one [false, false, false, false, false, false, false, false, true] rfl ?_
          simp only [sel_t, sel_f, sel_n]
          go_wp2
          refine ⟨⟨(⟨_ ++ (#[_] ++ x9), n9⟩, _), by rw [wd_merge3]⟩, ?_⟩
          refine louds_one [false, false, false, false, false, false, false, false, false, true] rfl ?_
          simp only [sel_t, sel_f, sel_n]
          go_wp2
          refine ⟨⟨(⟨_ ++ (#[_] ++ x9), n9⟩, _), by rw [wd_merge3]⟩, ?_⟩
          refine louds_one [false, false, false, false, false, false, false, false, false, false, false, true] rfl ?_
          simp only [sel_t, sel_f, sel_n]
          go_wp2
          refine ⟨⟨(⟨_ ++ (#[_] ++ x9), n9⟩, _), by rw [wd_merge3]⟩, ?_⟩
          refine louds_done ?_
          go_wp2
          refine bodyPost_ret (v := .tuple #[.agg #[.int .i64 D1, .int .i64 D2, .bool false, .string { data := #[] }, .bool false, .string (str U1)], .bool ((str RL).toList == (str s).toList)]) (by simp [results, Tryd.results56, go_sem]) rfl ?_
          exact ⟨by rw [HRR.out, ← str_eq]; rfl, more_wd _ _ _⟩
      | false =>
        have HRR := Lib.hid (HRR.out)
        refine calls_wd ?_
        go_enter Tryd.func56, Tryd.ntmps56
        go_wp2_with (first | (go_at_call 37; ((with_reducible refine (HSP.out _ _).mono ?_); rintro e w1 ⟨rfl, rfl⟩)))
        refine wp_region_new [0, 1, 2, 3, 4, 5, 6, 7, 8] 9 5 [10] [true, true, true, true, true, true, true, true, true] [false, false, false, false, false, false, false, false, false, false, true] (fun b => .pointer (some ⟨b, 0, none⟩)) (.cells #[.int .i64 0, .int .i64 0, .bool false, .string { data := #[] }, .bool false, .string { data := #[] }] 71) ⟨rfl, rfl⟩ (by kernel_rfl) (by kernel_rfl) (fun _ _ d _ _ h => by cases d <;> exact h) ⟨_, _, _, _, rfl⟩ ?_
        apply Exists.intro
        refine ⟨?_, ?_, ?_⟩
        · intro E
          simp only [sel_t, sel_f, sel_n]
          repeat (go_big_quiet_step ((first | (go_at_call 54; with_reducible exact Calls.wd_of (H1.out _)) | (go_at_call 54; with_reducible exact Calls.wd_of (H2.out _)))))
          exact wpQuiet_nil rfl
        · intro o ho w0; obtain rfl := Option.some.inj ho; go_simp
        intro e0 m0
        simp only [sel_t, sel_f, sel_n, put_lit, List.set_cons_succ, List.set_cons_zero, shape_cons, shape_nil]
        go_wp2_with (first | (go_at_call 8; ((with_reducible refine (HU.out _).mono ?_); rintro e w1 hq; obtain ⟨rfl, x1, n1, rfl⟩ := hq.out)))
        refine wp_region_tree (fun (s : Ext × Array Value) => wd w [s.1.e, _, _, _, _, #[.cells s.2 71]] s.1.n) ((⟨_, _⟩, _)) [0, 1, 2, 3, 7] (.one 4 (.one 5 (.one 6 (.two 8 10 (.two 9 10 (.one 10 (.one 11 .done)) (.one 9 (.one 11 .done))) (.one 8 (.one 9 (.one 11 .done))))))) [true, true, true, true, false, false, false, true] (wd_drew _ _ _) rfl (by kernel_rfl) (by kernel_rfl) (fun _ _ d _ _ h => by cases d <;> exact h) ?_
        apply Exists.intro
        refine ⟨?_, ?_⟩
        · intro E
          simp only [sel_t, sel_f, sel_n]
          repeat (go_big_quiet_step ((fail)))
          exact wpQuiet_nil rfl
        refine louds_one [false, false, false, false, true] rfl ?_
        simp only [sel_t, sel_f, sel_n]
        go_wp2
        refine ⟨⟨(⟨_, _⟩, _), rfl⟩, ?_⟩
        refine louds_one [false, false, false, false, false, true] rfl ?_
        simp only [sel_t, sel_f, sel_n]
        go_wp2
        refine ⟨⟨(⟨_, _⟩, _), rfl⟩, ?_⟩
        refine louds_one [false, false, false, false, false, false, true] rfl ?_
        simp only [sel_t, sel_f, sel_n]
        go_wp2
        refine ⟨⟨(⟨_, _⟩, _), rfl⟩, ?_⟩
        refine louds_two [false, false, false, false, false, false, false, false, true] [false, false, false, false, false, false, false, false, false, false, true] rfl rfl ?_ ?_
        all_goals (simp only [sel_t, sel_f, sel_n])
        focus
          go_wp2
          refine ⟨⟨(⟨_, _⟩, _), rfl⟩, ?_⟩
          refine louds_two [false, false, false, false, false, false, false, false, false, true] [false, false, false, false, false, false, false, false, false, false, true] rfl rfl ?_ ?_
          all_goals (simp only [sel_t, sel_f, sel_n])
          focus
            go_wp2
            refine ⟨⟨(⟨_, _⟩, _), rfl⟩, ?_⟩
            refine louds_one [false, false, false, false, false, false, false, false, false, false, true] rfl ?_
            simp only [sel_t, sel_f, sel_n]
            go_wp2
            refine ⟨⟨(⟨_, _⟩, _), rfl⟩, ?_⟩
            refine louds_one [false, false, false, false, false, false, false, false, false, false, false, true] rfl ?_
            simp only [sel_t, sel_f, sel_n]
            go_wp2
            refine ⟨⟨(⟨_, _⟩, _), rfl⟩, ?_⟩
            refine louds_done ?_
            go_wp2
            refine bodyPost_ret (v := .tuple #[.agg #[.int .i64 D1, .int .i64 D2, .bool false, .string { data := #[] }, .bool false, .string (str U1)], .bool false]) (by simp [results, Tryd.results56, go_sem]) rfl ?_
            exact ⟨by rw [HRR.out]; rfl, more_wd _ _ _⟩
          focus
            go_wp2
            refine ⟨⟨(⟨_, _⟩, _), rfl⟩, ?_⟩
            refine louds_one [false, false, false, false, false, false, false, false, false, true] rfl ?_
            simp only [sel_t, sel_f, sel_n]
            go_wp2
            refine ⟨⟨(⟨_, _⟩, _), rfl⟩, ?_⟩
            refine louds_one [false, false, false, false, false, false, false, false, false, false, false, true] rfl ?_
            simp only [sel_t, sel_f, sel_n]
            go_wp2
            refine ⟨⟨(⟨_, _⟩, _), rfl⟩, ?_⟩
            refine louds_done ?_
            go_wp2
            refine bodyPost_ret (v := .tuple #[.agg #[.int .i64 D1, .int .i64 D2, .bool false, .string { data := #[] }, .bool false, .string (str U1)], .bool false]) (by simp [results, Tryd.results56, go_sem]) rfl ?_
            exact ⟨by rw [HRR.out]; rfl, more_wd _ _ _⟩
        focus
          go_wp2
          refine ⟨⟨(⟨_, _⟩, _), rfl⟩, ?_⟩
          refine louds_one [false, false, false, false, false, false, false, false, true] rfl ?_
          simp only [sel_t, sel_f, sel_n]
          go_wp2
          refine ⟨⟨(⟨_, _⟩, _), rfl⟩, ?_⟩
          refine louds_one [false, false, false, false, false, false, false, false, false, true] rfl ?_
          simp only [sel_t, sel_f, sel_n]
          go_wp2
          refine ⟨⟨(⟨_, _⟩, _), rfl⟩, ?_⟩
          refine louds_one [false, false, false, false, false, false, false, false, false, false, false, true] rfl ?_
          simp only [sel_t, sel_f, sel_n]
          go_wp2
          refine ⟨⟨(⟨_, _⟩, _), rfl⟩, ?_⟩
          refine louds_done ?_
          go_wp2
          refine bodyPost_ret (v := .tuple #[.agg #[.int .i64 D1, .int .i64 D2, .bool false, .string { data := #[] }, .bool false, .string (str U1)], .bool false]) (by simp [results, Tryd.results56, go_sem]) rfl ?_
          exact ⟨by rw [HRR.out]; rfl, more_wd _ _ _⟩
    · have hq0 : ((str v3).toList == [118]) = false := by rw [str_toList]; simp [hv]
      by_cases hd : v3 = [100]
      · subst hd
        have hq1 : ((str [100]).toList == [100]) = true := by rw [str_toList]; rfl
        rw [if_neg hv, if_pos rfl, if_pos (Or.inr rfl)] at HRR
        have HL := Lib.hid (line_one ⟨D1, D2, true, U1, true, []⟩ ⟨d1.1, by show D1 ≤ _; omega, d2.1, by show D2 ≤ _; omega, by simp <;> omega, by simp <;> omega⟩)
        obtain ⟨R, hR⟩ : ∃ R : Rec, ⟨D1, D2, true, U1, true, []⟩ = R := ⟨_, rfl⟩
        obtain ⟨RL, hRL⟩ : ∃ RL, recLine ⟨D1, D2, true, U1, true, []⟩ = RL := ⟨_, rfl⟩
        rw [hRL] at HL HRR
        clear hRL hR R
        have HLX : Hid (∀ L n S, shape L = S → Calls Tryd.prog 15 #[.agg #[.int .i64 0, .int .i64 0, .int .i64 0, .int .i64 0, .int .i64 0, .slice (some ⟨sz w.heap.size S, 0, none⟩) 1 1], .int .i64 0] (wd w (#[.cells #[.int .i64 D1, .int .i64 D2, .bool true, .string (str U1), .bool true, .string { data := #[] }] 71] :: L) n) fun x w' => x = .returned (.string (str RL)) ∧ More (wd w (#[.cells #[.int .i64 D1, .int .i64 D2, .bool true, .string (str U1), .bool true, .string { data := #[] }] 71] :: L) n) w') := Lib.hid (fun L n S hS => by subst hS; exact HL.out _ 1 _ (lit_rec w L n ⟨D1, D2, true, U1, true, []⟩))
        clear HL
        cases U2 with
        | true =>
          have HRR := Lib.hid (HRR.out)
          refine calls_wd ?_
          go_enter Tryd.func56, Tryd.ntmps56
          go_wp2_with (first | (go_at_call 37; ((with_reducible refine (HSP.out _ _).mono ?_); rintro e w1 ⟨rfl, rfl⟩)))
          refine wp_region_new [0, 1, 2, 3, 4, 5, 6, 7, 8] 9 5 [10] [true, true, true, true, true, true, true, true, true] [false, false, false, false, false, false, false, false, false, false, true] (fun b => .pointer (some ⟨b, 0, none⟩)) (.cells #[.int .i64 0, .int .i64 0, .bool false, .string { data := #[] }, .bool false, .string { data := #[] }] 71) ⟨rfl, rfl⟩ (by kernel_rfl) (by kernel_rfl) (fun _ _ d _ _ h => by cases d <;> exact h) ⟨_, _, _, _, rfl⟩ ?_
          apply Exists.intro
          refine ⟨?_, ?_, ?_⟩
          · intro E
            simp only [sel_t, sel_f, sel_n]
            repeat (go_big_quiet_step ((first | (go_at_call 54; with_reducible exact Calls.wd_of (H1.out _)) | (go_at_call 54; with_reducible exact Calls.wd_of (H2.out _)))))
            exact wpQuiet_nil rfl
          · intro o ho w0; obtain rfl := Option.some.inj ho; go_simp
          intro e0 m0
          simp only [sel_t, sel_f, sel_n, put_lit, List.set_cons_succ, List.set_cons_zero, shape_cons, shape_nil]
          go_wp2_with (first | (go_at_call 8; ((with_reducible refine (HU.out _).mono ?_); rintro e w1 hq; obtain ⟨rfl, x1, n1, rfl⟩ := hq.out)))
          refine wp_region_tree (fun (s : Ext × Array Value) => wd w [s.1.e, _, _, _, _, #[.cells s.2 71]] s.1.n) ((⟨_, _⟩, _)) [0, 1, 2, 3, 7] (.one 4 (.one 5 (.one 6 (.two 8 10 (.two 9 10 (.one 10 (.one 11 .done)) (.one 9 (.one 11 .done))) (.one 8 (.one 9 (.one 11 .done))))))) [true, true, true, true, false, false, false, true] (wd_drew _ _ _) rfl (by kernel_rfl) (by kernel_rfl) (fun _ _ d _ _ h => by cases d <;> exact h) ?_
          apply Exists.intro
          refine ⟨?_, ?_⟩
          · intro E
            simp only [sel_t, sel_f, sel_n]
            repeat (go_big_quiet_step ((fail)))
            exact wpQuiet_nil rfl
          refine louds_one [false, false, false, false, true] rfl ?_
          simp only [sel_t, sel_f, sel_n]
          go_wp2
          refine ⟨⟨(⟨_ ++ #[_], _⟩, _), by rw [wd_merge]⟩, ?_⟩
          refine louds_one [false, false, false, false, false, true] rfl ?_
          simp only [sel_t, sel_f, sel_n]
          go_wp2
          refine ⟨⟨(⟨_ ++ #[_], _⟩, _), by rw [wd_merge]⟩, ?_⟩
          refine louds_one [false, false, false, false, false, false, true] rfl ?_
          simp only [sel_t, sel_f, sel_n]
          go_wp2_with (first | (go_at_call 15; ((with_reducible refine Calls.mono (HLX.out _ _ _ ?_) ?_); (exact rfl); rintro e w1 ⟨rfl, x9, n9, rfl⟩)))
          refine ⟨⟨(⟨_ ++ (#[_] ++ x9), n9⟩, _), by rw [wd_merge3]⟩, ?_⟩
          refine louds_two [false, false, false, false, false, false, false, false, true] [false, false, false, false, false, false, false, false, false, false, true] rfl rfl ?_ ?_
          all_goals (simp only [sel_t, sel_f, sel_n])
          focus
            go_wp2
            refine ⟨⟨(⟨_ ++ (#[_] ++ x9), n9⟩, _), by rw [wd_merge3]⟩, ?_⟩
            refine louds_two [false, false, false, false, false, false, false, false, false, true] [false, false, false, false, false, false, false, false, false, false, true] rfl rfl ?_ ?_
            all_goals (simp only [sel_t, sel_f, sel_n])
            focus
              go_wp2
              refine ⟨⟨(⟨_ ++ (#[_] ++ x9), n9⟩, _), by rw [wd_merge3]⟩, ?_⟩
              refine louds_one [false, false, false, false, false, false, false, false, false, false, true] rfl ?_
              simp only [sel_t, sel_f, sel_n]
              go_wp2
              refine ⟨⟨(⟨_ ++ (#[_] ++ x9), n9⟩, _), by rw [wd_merge3]⟩, ?_⟩
              refine louds_one [false, false, false, false, false, false, false, false, false, false, false, true] rfl ?_
              simp only [sel_t, sel_f, sel_n]
              go_wp2
              refine ⟨⟨(⟨_ ++ (#[_] ++ x9), n9⟩, _), by rw [wd_merge3]⟩, ?_⟩
              refine louds_done ?_
              go_wp2
              refine bodyPost_ret (v := .tuple #[.agg #[.int .i64 D1, .int .i64 D2, .bool true, .string (str U1), .bool true, .string { data := #[] }], .bool ((str RL).toList == (str s).toList)]) (by simp [results, Tryd.results56, go_sem]) rfl ?_
              exact ⟨by rw [HRR.out, ← str_eq]; rfl, more_wd _ _ _⟩
            focus
              go_wp2
              refine ⟨⟨(⟨_ ++ (#[_] ++ x9), n9⟩, _), by rw [wd_merge3]⟩, ?_⟩
              refine louds_one [false, false, false, false, false, false, false, false, false, true] rfl ?_
              simp only [sel_t, sel_f, sel_n]
              go_wp2
              refine ⟨⟨(⟨_ ++ (#[_] ++ x9), n9⟩, _), by rw [wd_merge3]⟩, ?_⟩
              refine louds_one [false, false, false, false, false, false, false, false, false, false, false, true] rfl ?_
              simp only [sel_t, sel_f, sel_n]
              go_wp2
              refine ⟨⟨(⟨_ ++ (#[_] ++ x9), n9⟩, _), by rw [wd_merge3]⟩, ?_⟩
              refine louds_done ?_
              go_wp2
              refine bodyPost_ret (v := .tuple #[.agg #[.int .i64 D1, .int .i64 D2, .bool true, .string (str U1), .bool true, .string { data := #[] }], .bool ((str RL).toList == (str s).toList)]) (by simp [results, Tryd.results56, go_sem]) rfl ?_
              exact ⟨by rw [HRR.out, ← str_eq]; rfl, more_wd _ _ _⟩
          focus
            go_wp2
            refine ⟨⟨(⟨_ ++ (#[_] ++ x9), n9⟩, _), by rw [wd_merge3]⟩, ?_⟩
            refine louds_one [false, false, false, false, false, false, false, false, true] rfl ?_
            simp only [sel_t, sel_f, sel_n]
            go_wp2
            refine ⟨⟨(⟨_ ++ (#[_] ++ x9), n9⟩, _), by rw [wd_merge3]⟩, ?_⟩
            refine louds_one [false, false, false, false, false, false, false, false, false, true] rfl ?_
            simp only [sel_t, sel_f, sel_n]
            go_wp2
            refine ⟨⟨(⟨_ ++ (#[_] ++ x9), n9⟩, _), by rw [wd_merge3]⟩, ?_⟩
            refine louds_one [false, false, false, false, false, false, false, false, false, false, false, true] rfl ?_
            simp only [sel_t, sel_f, sel_n]
            go_wp2
            refine ⟨⟨(⟨_ ++ (#[_] ++ x9), n9⟩, _), by rw [wd_merge3]⟩, ?_⟩
            refine louds_done ?_
            go_wp2
            refine bodyPost_ret (v := .tuple #[.agg #[.int .i64 D1, .int .i64 D2, .bool true, .string (str U1), .bool true, .string { data := #[] }], .bool ((str RL).toList == (str s).toList)]) (by simp [results, Tryd.results56, go_sem]) rfl ?_
            exact ⟨by rw [HRR.out, ← str_eq]; rfl, more_wd _ _ _⟩
        | false =>
          have HRR := Lib.hid (HRR.out)
          refine calls_wd ?_
          go_enter Tryd.func56, Tryd.ntmps56
          go_wp2_with (first | (go_at_call 37; ((with_reducible refine (HSP.out _ _).mono ?_); rintro e w1 ⟨rfl, rfl⟩)))
          refine wp_region_new [0, 1, 2, 3, 4, 5, 6, 7, 8] 9 5 [10] [true, true, true, true, true, true, true, true, true] [false, false, false, false, false, false, false, false, false, false, true] (fun b => .pointer (some ⟨b, 0, none⟩)) (.cells #[.int .i64 0, .int .i64 0, .bool false, .string { data := #[] }, .bool false, .string { data := #[] }] 71) ⟨rfl, rfl⟩ (by kernel_rfl) (by kernel_rfl) (fun _ _ d _ _ h => by cases d <;> exact h) ⟨_, _, _, _, rfl⟩ ?_
          apply Exists.intro
          refine ⟨?_, ?_, ?_⟩
          · intro E
            simp only [sel_t, sel_f, sel_n]
            repeat (go_big_quiet_step ((first | (go_at_call 54; with_reducible exact Calls.wd_of (H1.out _)) | (go_at_call 54; with_reducible exact Calls.wd_of (H2.out _)))))
            exact wpQuiet_nil rfl
          · intro o ho w0; obtain rfl := Option.some.inj ho; go_simp
          intro e0 m0
          simp only [sel_t, sel_f, sel_n, put_lit, List.set_cons_succ, List.set_cons_zero, shape_cons, shape_nil]
          go_wp2_with (first | (go_at_call 8; ((with_reducible refine (HU.out _).mono ?_); rintro e w1 hq; obtain ⟨rfl, x1, n1, rfl⟩ := hq.out)))
          refine wp_region_tree (fun (s : Ext × Array Value) => wd w [s.1.e, _, _, _, _, #[.cells s.2 71]] s.1.n) ((⟨_, _⟩, _)) [0, 1, 2, 3, 7] (.one 4 (.one 5 (.one 6 (.two 8 10 (.two 9 10 (.one 10 (.one 11 .done)) (.one 9 (.one 11 .done))) (.one 8 (.one 9 (.one 11 .done))))))) [true, true, true, true, false, false, false, true] (wd_drew _ _ _) rfl (by kernel_rfl) (by kernel_rfl) (fun _ _ d _ _ h => by cases d <;> exact h) ?_
          apply Exists.intro
          refine ⟨?_, ?_⟩
          · intro E
            simp only [sel_t, sel_f, sel_n]
            repeat (go_big_quiet_step ((fail)))
            exact wpQuiet_nil rfl
          refine louds_one [false, false, false, false, true] rfl ?_
          simp only [sel_t, sel_f, sel_n]
          go_wp2
          refine ⟨⟨(⟨_, _⟩, _), rfl⟩, ?_⟩
          refine louds_one [false, false, false, false, false, true] rfl ?_
          simp only [sel_t, sel_f, sel_n]
          go_wp2
          refine ⟨⟨(⟨_, _⟩, _), rfl⟩, ?_⟩
          refine louds_one [false, false, false, false, false, false, true] rfl ?_
          simp only [sel_t, sel_f, sel_n]
          go_wp2
          refine ⟨⟨(⟨_, _⟩, _), rfl⟩, ?_⟩
          refine louds_two [false, false, false, false, false, false, false, false, true] [false, false, false, false, false, false, false, false, false, false, true] rfl rfl ?_ ?_
          all_goals (simp only [sel_t, sel_f, sel_n])
          focus
            go_wp2
            refine ⟨⟨(⟨_, _⟩, _), rfl⟩, ?_⟩
            refine louds_two [false, false, false, false, false, false, false, false, false, true] [false, false, false, false, false, false, false, false, false, false, true] rfl rfl ?_ ?_
            all_goals (simp only [sel_t, sel_f, sel_n])
            focus
              go_wp2
              refine ⟨⟨(⟨_, _⟩, _), rfl⟩, ?_⟩
              refine louds_one [false, false, false, false, false, false, false, false, false, false, true] rfl ?_
              simp only [sel_t, sel_f, sel_n]
              go_wp2
              refine ⟨⟨(⟨_, _⟩, _), rfl⟩, ?_⟩
              refine louds_one [false, false, false, false, false, false, false, false, false, false, false, true] rfl ?_
              simp only [sel_t, sel_f, sel_n]
              go_wp2
              refine ⟨⟨(⟨_, _⟩, _), rfl⟩, ?_⟩
              refine louds_done ?_
              go_wp2
              refine bodyPost_ret (v := .tuple #[.agg #[.int .i64 D1, .int .i64 D2, .bool true, .string (str U1), .bool true, .string { data := #[] }], .bool false]) (by simp [results, Tryd.results56, go_sem]) rfl ?_
              exact ⟨by rw [HRR.out]; rfl, more_wd _ _ _⟩
            focus
              go_wp2
              refine ⟨⟨(⟨_, _⟩, _), rfl⟩, ?_⟩
              refine louds_one [false, false, false, false, false, false, false, false, false, true] rfl ?_
              simp only [sel_t, sel_f, sel_n]
              go_wp2
              refine ⟨⟨(⟨_, _⟩, _), rfl⟩, ?_⟩
              refine louds_one [false, false, false, false, false, false, false, false, false, false, false, true] rfl ?_
              simp only [sel_t, sel_f, sel_n]
              go_wp2
              refine ⟨⟨(⟨_, _⟩, _), rfl⟩, ?_⟩
              refine louds_done ?_
              go_wp2
              refine bodyPost_ret (v := .tuple #[.agg #[.int .i64 D1, .int .i64 D2, .bool true, .string (str U1), .bool true, .string { data := #[] }], .bool false]) (by simp [results, Tryd.results56, go_sem]) rfl ?_
              exact ⟨by rw [HRR.out]; rfl, more_wd _ _ _⟩
          focus
            go_wp2
            refine ⟨⟨(⟨_, _⟩, _), rfl⟩, ?_⟩
            refine louds_one [false, false, false, false, false, false, false, false, true] rfl ?_
            simp only [sel_t, sel_f, sel_n]
            go_wp2
            refine ⟨⟨(⟨_, _⟩, _), rfl⟩, ?_⟩
            refine louds_one [false, false, false, false, false, false, false, false, false, true] rfl ?_
            simp only [sel_t, sel_f, sel_n]
            go_wp2
            refine ⟨⟨(⟨_, _⟩, _), rfl⟩, ?_⟩
            refine louds_one [false, false, false, false, false, false, false, false, false, false, false, true] rfl ?_
            simp only [sel_t, sel_f, sel_n]
            go_wp2
            refine ⟨⟨(⟨_, _⟩, _), rfl⟩, ?_⟩
            refine louds_done ?_
            go_wp2
            refine bodyPost_ret (v := .tuple #[.agg #[.int .i64 D1, .int .i64 D2, .bool true, .string (str U1), .bool true, .string { data := #[] }], .bool false]) (by simp [results, Tryd.results56, go_sem]) rfl ?_
            exact ⟨by rw [HRR.out]; rfl, more_wd _ _ _⟩
      · have hq1 : ((str v3).toList == [100]) = false := by rw [str_toList]; simp [hd]
        rw [if_neg hv, if_neg hd, if_neg (by simp [hv, hd])] at HRR
        clear hv hd
        have HL := Lib.hid (line_one ⟨D1, D2, true, U1, false, V1⟩ ⟨d1.1, by show D1 ≤ _; omega, d2.1, by show D2 ≤ _; omega, by simp <;> omega, by simp <;> omega⟩)
        obtain ⟨R, hR⟩ : ∃ R : Rec, ⟨D1, D2, true, U1, false, V1⟩ = R := ⟨_, rfl⟩
        obtain ⟨RL, hRL⟩ : ∃ RL, recLine ⟨D1, D2, true, U1, false, V1⟩ = RL := ⟨_, rfl⟩
        rw [hRL] at HL HRR
        clear hRL hR R
        have HLX : Hid (∀ L n S, shape L = S → Calls Tryd.prog 15 #[.agg #[.int .i64 0, .int .i64 0, .int .i64 0, .int .i64 0, .int .i64 0, .slice (some ⟨sz w.heap.size S, 0, none⟩) 1 1], .int .i64 0] (wd w (#[.cells #[.int .i64 D1, .int .i64 D2, .bool true, .string (str U1), .bool false, .string (str V1)] 71] :: L) n) fun x w' => x = .returned (.string (str RL)) ∧ More (wd w (#[.cells #[.int .i64 D1, .int .i64 D2, .bool true, .string (str U1), .bool false, .string (str V1)] 71] :: L) n) w') := Lib.hid (fun L n S hS => by subst hS; exact HL.out _ 1 _ (lit_rec w L n ⟨D1, D2, true, U1, false, V1⟩))
        clear HL
        obtain ⟨a5, HCUT, HST5⟩ := cut_strs (sz w.heap.size [1]) N h5'
        have HST : Hid (∀ (a b c d : Array Obj) (n : Nat), StrsAt (wd w (d :: c :: b :: a :: [#[.cells C 9], #[.cells #[.int .i64 0, .int .i64 0, .bool false, .string { data := #[] }, .bool false, .string { data := #[] }] 71]]) n) a5 (ws.drop 5)) := Lib.hid (fun a b c d n => HST5 _ _ HN.out ((HSTRS.out [#[.cells #[.int .i64 0, .int .i64 0, .bool false, .string { data := #[] }, .bool false, .string { data := #[] }] 71]] n).more (more_up4 _ _ _ _ _ _ _ _)))
        clear HST5
        cases U2 <;> cases V2
        · have HRR := Lib.hid (HRR.out)
          refine calls_wd ?_
          go_enter Tryd.func56, Tryd.ntmps56
          go_wp2_with (first | (go_at_call 37; ((with_reducible refine (HSP.out _ _).mono ?_); rintro e w1 ⟨rfl, rfl⟩)))
          refine wp_region_new [0, 1, 2, 3, 4, 5, 6, 7, 8] 9 5 [10] [true, true, true, true, true, true, true, true, true] [false, false, false, false, false, false, false, false, false, false, true] (fun b => .pointer (some ⟨b, 0, none⟩)) (.cells #[.int .i64 0, .int .i64 0, .bool false, .string { data := #[] }, .bool false, .string { data := #[] }] 71) ⟨rfl, rfl⟩ (by kernel_rfl) (by kernel_rfl) (fun _ _ d _ _ h => by cases d <;> exact h) ⟨_, _, _, _, rfl⟩ ?_
          apply Exists.intro
          refine ⟨?_, ?_, ?_⟩
          · intro E
            simp only [sel_t, sel_f, sel_n]
            repeat (go_big_quiet_step ((first | (go_at_call 54; with_reducible exact Calls.wd_of (H1.out _)) | (go_at_call 54; with_reducible exact Calls.wd_of (H2.out _)))))
            exact wpQuiet_nil rfl
          · intro o ho w0; obtain rfl := Option.some.inj ho; go_simp
          intro e0 m0
          simp only [sel_t, sel_f, sel_n, put_lit, List.set_cons_succ, List.set_cons_zero, shape_cons, shape_nil]
          go_wp2_with (first | (go_at_call 8; ((with_reducible refine (HU.out _).mono ?_); rintro e w1 hq; obtain ⟨rfl, x1, n1, rfl⟩ := hq.out)) | (go_at_call 8; ((with_reducible refine (HV.out _).mono ?_); rintro e w1 hq; obtain ⟨rfl, x3, n3, rfl⟩ := hq.out)) | (go_at_call 49; refine (HJOIN.out _ _ (HST.out _ _ _ _ _)).mono ?_; rintro e w1 ⟨rfl, x2, n2, rfl⟩))
          refine wp_region_tree (fun (s : Ext × Array Value) => wd w [s.1.e, _, _, _, _, _, _, #[.cells s.2 71]] s.1.n) ((⟨_, _⟩, _)) [0, 1, 2, 3, 7] (.one 4 (.one 5 (.one 6 (.two 8 10 (.two 9 10 (.one 10 (.one 11 .done)) (.one 9 (.one 11 .done))) (.one 8 (.one 9 (.one 11 .done))))))) [true, true, true, true, false, false, false, true] (wd_drew _ _ _) rfl (by kernel_rfl) (by kernel_rfl) (fun _ _ d _ _ h => by cases d <;> exact h) ?_
          apply Exists.intro
          refine ⟨?_, ?_⟩
          · intro E
            simp only [sel_t, sel_f, sel_n]
            repeat (go_big_quiet_step ((fail)))
            exact wpQuiet_nil rfl
          refine louds_one [false, false, false, false, true] rfl ?_
          simp only [sel_t, sel_f, sel_n]
          go_wp2
          refine ⟨⟨(⟨_, _⟩, _), rfl⟩, ?_⟩
          refine louds_one [false, false, false, false, false, true] rfl ?_
          simp only [sel_t, sel_f, sel_n]
          go_wp2
          refine ⟨⟨(⟨_, _⟩, _), rfl⟩, ?_⟩
          refine louds_one [false, false, false, false, false, false, true] rfl ?_
          simp only [sel_t, sel_f, sel_n]
          go_wp2
          refine ⟨⟨(⟨_, _⟩, _), rfl⟩, ?_⟩
          refine louds_two [false, false, false, false, false, false, false, false, true] [false, false, false, false, false, false, false, false, false, false, true] rfl rfl ?_ ?_
          all_goals (simp only [sel_t, sel_f, sel_n])
          focus
            go_wp2
            refine ⟨⟨(⟨_, _⟩, _), rfl⟩, ?_⟩
            refine louds_two [false, false, false, false, false, false, false, false, false, true] [false, false, false, false, false, false, false, false, false, false, true] rfl rfl ?_ ?_
            all_goals (simp only [sel_t, sel_f, sel_n])
            focus
              go_wp2
              refine ⟨⟨(⟨_, _⟩, _), rfl⟩, ?_⟩
              refine louds_one [false, false, false, false, false, false, false, false, false, false, true] rfl ?_
              simp only [sel_t, sel_f, sel_n]
              go_wp2
              refine ⟨⟨(⟨_, _⟩, _), rfl⟩, ?_⟩
              refine louds_one [false, false, false, false, false, false, false, false, false, false, false, true] rfl ?_
              simp only [sel_t, sel_f, sel_n]
              go_wp2
              refine ⟨⟨(⟨_, _⟩, _), rfl⟩, ?_⟩
              refine louds_done ?_
              go_wp2
              refine bodyPost_ret (v := .tuple #[.agg #[.int .i64 D1, .int .i64 D2, .bool true, .string (str U1), .bool false, .string (str V1)], .bool false]) (by simp [results, Tryd.results56, go_sem]) rfl ?_
              exact ⟨by rw [HRR.out]; rfl, more_wd _ _ _⟩
            focus
              go_wp2
              refine ⟨⟨(⟨_, _⟩, _), rfl⟩, ?_⟩
              refine louds_one [false, false, false, false, false, false, false, false, false, true] rfl ?_
              simp only [sel_t, sel_f, sel_n]
              go_wp2
              refine ⟨⟨(⟨_, _⟩, _), rfl⟩, ?_⟩
              refine louds_one [false, false, false, false, false, false, false, false, false, false, false, true] rfl ?_
              simp only [sel_t, sel_f, sel_n]
              go_wp2
              refine ⟨⟨(⟨_, _⟩, _), rfl⟩, ?_⟩
              refine louds_done ?_
              go_wp2
              refine bodyPost_ret (v := .tuple #[.agg #[.int .i64 D1, .int .i64 D2, .bool true, .string (str U1), .bool false, .string (str V1)], .bool false]) (by simp [results, Tryd.results56, go_sem]) rfl ?_
              exact ⟨by rw [HRR.out]; rfl, more_wd _ _ _⟩
          focus
            go_wp2
            refine ⟨⟨(⟨_, _⟩, _), rfl⟩, ?_⟩
            refine louds_one [false, false, false, false, false, false, false, false, true] rfl ?_
            simp only [sel_t, sel_f, sel_n]
            go_wp2
            refine ⟨⟨(⟨_, _⟩, _), rfl⟩, ?_⟩
            refine louds_one [false, false, false, false, false, false, false, false, false, true] rfl ?_
            simp only [sel_t, sel_f, sel_n]
            go_wp2
            refine ⟨⟨(⟨_, _⟩, _), rfl⟩, ?_⟩
            refine louds_one [false, false, false, false, false, false, false, false, false, false, false, true] rfl ?_
            simp only [sel_t, sel_f, sel_n]
            go_wp2
            refine ⟨⟨(⟨_, _⟩, _), rfl⟩, ?_⟩
            refine louds_done ?_
            go_wp2
            refine bodyPost_ret (v := .tuple #[.agg #[.int .i64 D1, .int .i64 D2, .bool true, .string (str U1), .bool false, .string (str V1)], .bool false]) (by simp [results, Tryd.results56, go_sem]) rfl ?_
            exact ⟨by rw [HRR.out]; rfl, more_wd _ _ _⟩
        · have HRR := Lib.hid (HRR.out)
          refine calls_wd ?_
          go_enter Tryd.func56, Tryd.ntmps56
          go_wp2_with (first | (go_at_call 37; ((with_reducible refine (HSP.out _ _).mono ?_); rintro e w1 ⟨rfl, rfl⟩)))
          refine wp_region_new [0, 1, 2, 3, 4, 5, 6, 7, 8] 9 5 [10] [true, true, true, true, true, true, true, true, true] [false, false, false, false, false, false, false, false, false, false, true] (fun b => .pointer (some ⟨b, 0, none⟩)) (.cells #[.int .i64 0, .int .i64 0, .bool false, .string { data := #[] }, .bool false, .string { data := #[] }] 71) ⟨rfl, rfl⟩ (by kernel_rfl) (by kernel_rfl) (fun _ _ d _ _ h => by cases d <;> exact h) ⟨_, _, _, _, rfl⟩ ?_
          apply Exists.intro
          refine ⟨?_, ?_, ?_⟩
          · intro E
            simp only [sel_t, sel_f, sel_n]
            repeat (go_big_quiet_step ((first | (go_at_call 54; with_reducible exact Calls.wd_of (H1.out _)) | (go_at_call 54; with_reducible exact Calls.wd_of (H2.out _)))))
            exact wpQuiet_nil rfl
          · intro o ho w0; obtain rfl := Option.some.inj ho; go_simp
          intro e0 m0
          simp only [sel_t, sel_f, sel_n, put_lit, List.set_cons_succ, List.set_cons_zero, shape_cons, shape_nil]
          go_wp2_with (first | (go_at_call 8; ((with_reducible refine (HU.out _).mono ?_); rintro e w1 hq; obtain ⟨rfl, x1, n1, rfl⟩ := hq.out)) | (go_at_call 8; ((with_reducible refine (HV.out _).mono ?_); rintro e w1 hq; obtain ⟨rfl, x3, n3, rfl⟩ := hq.out)) | (go_at_call 49; refine (HJOIN.out _ _ (HST.out _ _ _ _ _)).mono ?_; rintro e w1 ⟨rfl, x2, n2, rfl⟩))
          refine wp_region_tree (fun (s : Ext × Array Value) => wd w [s.1.e, _, _, _, _, _, _, #[.cells s.2 71]] s.1.n) ((⟨_, _⟩, _)) [0, 1, 2, 3, 7] (.one 4 (.one 5 (.one 6 (.two 8 10 (.two 9 10 (.one 10 (.one 11 .done)) (.one 9 (.one 11 .done))) (.one 8 (.one 9 (.one 11 .done))))))) [true, true, true, true, false, false, false, true] (wd_drew _ _ _) rfl (by kernel_rfl) (by kernel_rfl) (fun _ _ d _ _ h => by cases d <;> exact h) ?_
          apply Exists.intro
          refine ⟨?_, ?_⟩
          · intro E
            simp only [sel_t, sel_f, sel_n]
            repeat (go_big_quiet_step ((fail)))
            exact wpQuiet_nil rfl
          refine louds_one [false, false, false, false, true] rfl ?_
          simp only [sel_t, sel_f, sel_n]
          go_wp2
          refine ⟨⟨(⟨_, _⟩, _), rfl⟩, ?_⟩
          refine louds_one [false, false, false, false, false, true] rfl ?_
          simp only [sel_t, sel_f, sel_n]
          go_wp2
          refine ⟨⟨(⟨_, _⟩, _), rfl⟩, ?_⟩
          refine louds_one [false, false, false, false, false, false, true] rfl ?_
          simp only [sel_t, sel_f, sel_n]
          go_wp2
          refine ⟨⟨(⟨_, _⟩, _), rfl⟩, ?_⟩
          refine louds_two [false, false, false, false, false, false, false, false, true] [false, false, false, false, false, false, false, false, false, false, true] rfl rfl ?_ ?_
          all_goals (simp only [sel_t, sel_f, sel_n])
          focus
            go_wp2
            refine ⟨⟨(⟨_, _⟩, _), rfl⟩, ?_⟩
            refine louds_two [false, false, false, false, false, false, false, false, false, true] [false, false, false, false, false, false, false, false, false, false, true] rfl rfl ?_ ?_
            all_goals (simp only [sel_t, sel_f, sel_n])
            focus
              go_wp2
              refine ⟨⟨(⟨_, _⟩, _), rfl⟩, ?_⟩
              refine louds_one [false, false, false, false, false, false, false, false, false, false, true] rfl ?_
              simp only [sel_t, sel_f, sel_n]
              go_wp2
              refine ⟨⟨(⟨_, _⟩, _), rfl⟩, ?_⟩
              refine louds_one [false, false, false, false, false, false, false, false, false, false, false, true] rfl ?_
              simp only [sel_t, sel_f, sel_n]
              go_wp2
              refine ⟨⟨(⟨_, _⟩, _), rfl⟩, ?_⟩
              refine louds_done ?_
              go_wp2
              refine bodyPost_ret (v := .tuple #[.agg #[.int .i64 D1, .int .i64 D2, .bool true, .string (str U1), .bool false, .string (str V1)], .bool false]) (by simp [results, Tryd.results56, go_sem]) rfl ?_
              exact ⟨by rw [HRR.out]; rfl, more_wd _ _ _⟩
            focus
              go_wp2
              refine ⟨⟨(⟨_, _⟩, _), rfl⟩, ?_⟩
              refine louds_one [false, false, false, false, false, false, false, false, false, true] rfl ?_
              simp only [sel_t, sel_f, sel_n]
              go_wp2
              refine ⟨⟨(⟨_, _⟩, _), rfl⟩, ?_⟩
              refine louds_one [false, false, false, false, false, false, false, false, false, false, false, true] rfl ?_
              simp only [sel_t, sel_f, sel_n]
              go_wp2
              refine ⟨⟨(⟨_, _⟩, _), rfl⟩, ?_⟩
              refine louds_done ?_
              go_wp2
              refine bodyPost_ret (v := .tuple #[.agg #[.int .i64 D1, .int .i64 D2, .bool true, .string (str U1), .bool false, .string (str V1)], .bool false]) (by simp [results, Tryd.results56, go_sem]) rfl ?_
              exact ⟨by rw [HRR.out]; rfl, more_wd _ _ _⟩
          focus
            go_wp2
            refine ⟨⟨(⟨_, _⟩, _), rfl⟩, ?_⟩
            refine louds_one [false, false, false, false, false, false, false, false, true] rfl ?_
            simp only [sel_t, sel_f, sel_n]
            go_wp2
            refine ⟨⟨(⟨_, _⟩, _), rfl⟩, ?_⟩
            refine louds_one [false, false, false, false, false, false, false, false, false, true] rfl ?_
            simp only [sel_t, sel_f, sel_n]
            go_wp2
            refine ⟨⟨(⟨_, _⟩, _), rfl⟩, ?_⟩
            refine louds_one [false, false, false, false, false, false, false, false, false, false, false, true] rfl ?_
            simp only [sel_t, sel_f, sel_n]
            go_wp2
            refine ⟨⟨(⟨_, _⟩, _), rfl⟩, ?_⟩
            refine louds_done ?_
            go_wp2
            refine bodyPost_ret (v := .tuple #[.agg #[.int .i64 D1, .int .i64 D2, .bool true, .string (str U1), .bool false, .string (str V1)], .bool false]) (by simp [results, Tryd.results56, go_sem]) rfl ?_
            exact ⟨by rw [HRR.out]; rfl, more_wd _ _ _⟩
        · have HRR := Lib.hid (HRR.out)
          refine calls_wd ?_
          go_enter Tryd.func56, Tryd.ntmps56
          go_wp2_with (first | (go_at_call 37; ((with_reducible refine (HSP.out _ _).mono ?_); rintro e w1 ⟨rfl, rfl⟩)))
          refine wp_region_new [0, 1, 2, 3, 4, 5, 6, 7, 8] 9 5 [10] [true, true, true, true, true, true, true, true, true] [false, false, false, false, false, false, false, false, false, false, true] (fun b => .pointer (some ⟨b, 0, none⟩)) (.cells #[.int .i64 0, .int .i64 0, .bool false, .string { data := #[] }, .bool false, .string { data := #[] }] 71) ⟨rfl, rfl⟩ (by kernel_rfl) (by kernel_rfl) (fun _ _ d _ _ h => by cases d <;> exact h) ⟨_, _, _, _, rfl⟩ ?_
          apply Exists.intro
          refine ⟨?_, ?_, ?_⟩
          · intro E
            simp only [sel_t, sel_f, sel_n]
            repeat (go_big_quiet_step ((first | (go_at_call 54; with_reducible exact Calls.wd_of (H1.out _)) | (go_at_call 54; with_reducible exact Calls.wd_of (H2.out _)))))
            exact wpQuiet_nil rfl
          · intro o ho w0; obtain rfl := Option.some.inj ho; go_simp
          intro e0 m0
          simp only [sel_t, sel_f, sel_n, put_lit, List.set_cons_succ, List.set_cons_zero, shape_cons, shape_nil]
          go_wp2_with (first | (go_at_call 8; ((with_reducible refine (HU.out _).mono ?_); rintro e w1 hq; obtain ⟨rfl, x1, n1, rfl⟩ := hq.out)) | (go_at_call 8; ((with_reducible refine (HV.out _).mono ?_); rintro e w1 hq; obtain ⟨rfl, x3, n3, rfl⟩ := hq.out)) | (go_at_call 49; refine (HJOIN.out _ _ (HST.out _ _ _ _ _)).mono ?_; rintro e w1 ⟨rfl, x2, n2, rfl⟩))
          refine wp_region_tree (fun (s : Ext × Array Value) => wd w [s.1.e, _, _, _, _, _, _, #[.cells s.2 71]] s.1.n) ((⟨_, _⟩, _)) [0, 1, 2, 3, 7] (.one 4 (.one 5 (.one 6 (.two 8 10 (.two 9 10 (.one 10 (.one 11 .done)) (.one 9 (.one 11 .done))) (.one 8 (.one 9 (.one 11 .done))))))) [true, true, true, true, false, false, false, true] (wd_drew _ _ _) rfl (by kernel_rfl) (by kernel_rfl) (fun _ _ d _ _ h => by cases d <;> exact h) ?_
          apply Exists.intro
          refine ⟨?_, ?_⟩
          · intro E
            simp only [sel_t, sel_f, sel_n]
            repeat (go_big_quiet_step ((fail)))
            exact wpQuiet_nil rfl
          refine louds_one [false, false, false, false, true] rfl ?_
          simp only [sel_t, sel_f, sel_n]
          go_wp2
          refine ⟨⟨(⟨_, _⟩, _), rfl⟩, ?_⟩
          refine louds_one [false, false, false, false, false, true] rfl ?_
          simp only [sel_t, sel_f, sel_n]
          go_wp2
          refine ⟨⟨(⟨_, _⟩, _), rfl⟩, ?_⟩
          refine louds_one [false, false, false, false, false, false, true] rfl ?_
          simp only [sel_t, sel_f, sel_n]
          go_wp2
          refine ⟨⟨(⟨_, _⟩, _), rfl⟩, ?_⟩
          refine louds_two [false, false, false, false, false, false, false, false, true] [false, false, false, false, false, false, false, false, false, false, true] rfl rfl ?_ ?_
          all_goals (simp only [sel_t, sel_f, sel_n])
          focus
            go_wp2
            refine ⟨⟨(⟨_, _⟩, _), rfl⟩, ?_⟩
            refine louds_two [false, false, false, false, false, false, false, false, false, true] [false, false, false, false, false, false, false, false, false, false, true] rfl rfl ?_ ?_
            all_goals (simp only [sel_t, sel_f, sel_n])
            focus
              go_wp2
              refine ⟨⟨(⟨_, _⟩, _), rfl⟩, ?_⟩
              refine louds_one [false, false, false, false, false, false, false, false, false, false, true] rfl ?_
              simp only [sel_t, sel_f, sel_n]
              go_wp2
              refine ⟨⟨(⟨_, _⟩, _), rfl⟩, ?_⟩
              refine louds_one [false, false, false, false, false, false, false, false, false, false, false, true] rfl ?_
              simp only [sel_t, sel_f, sel_n]
              go_wp2
              refine ⟨⟨(⟨_, _⟩, _), rfl⟩, ?_⟩
              refine louds_done ?_
              go_wp2
              refine bodyPost_ret (v := .tuple #[.agg #[.int .i64 D1, .int .i64 D2, .bool true, .string (str U1), .bool false, .string (str V1)], .bool false]) (by simp [results, Tryd.results56, go_sem]) rfl ?_
              exact ⟨by rw [HRR.out]; rfl, more_wd _ _ _⟩
            focus
              go_wp2
              refine ⟨⟨(⟨_, _⟩, _), rfl⟩, ?_⟩
              refine louds_one [false, false, false, false, false, false, false, false, false, true] rfl ?_
              simp only [sel_t, sel_f, sel_n]
              go_wp2
              refine ⟨⟨(⟨_, _⟩, _), rfl⟩, ?_⟩
              refine louds_one [false, false, false, false, false, false, false, false, false, false, false, true] rfl ?_
              simp only [sel_t, sel_f, sel_n]
              go_wp2
              refine ⟨⟨(⟨_, _⟩, _), rfl⟩, ?_⟩
              refine louds_done ?_
              go_wp2
              refine bodyPost_ret (v := .tuple #[.agg #[.int .i64 D1, .int .i64 D2, .bool true, .string (str U1), .bool false, .string (str V1)], .bool false]) (by simp [results, Tryd.results56, go_sem]) rfl ?_
              exact ⟨by rw [HRR.out]; rfl, more_wd _ _ _⟩
          focus
            go_wp2
            refine ⟨⟨(⟨_, _⟩, _), rfl⟩, ?_⟩
            refine louds_one [false, false, false, false, false, false, false, false, true] rfl ?_
            simp only [sel_t, sel_f, sel_n]
            go_wp2
            refine ⟨⟨(⟨_, _⟩, _), rfl⟩, ?_⟩
            refine louds_one [false, false, false, false, false, false, false, false, false, true] rfl ?_
            simp only [sel_t, sel_f, sel_n]
            go_wp2
            refine ⟨⟨(⟨_, _⟩, _), rfl⟩, ?_⟩
            refine louds_one [false, false, false, false, false, false, false, false, false, false, false, true] rfl ?_
            simp only [sel_t, sel_f, sel_n]
            go_wp2
            refine ⟨⟨(⟨_, _⟩, _), rfl⟩, ?_⟩
            refine louds_done ?_
            go_wp2
            refine bodyPost_ret (v := .tuple #[.agg #[.int .i64 D1, .int .i64 D2, .bool true, .string (str U1), .bool false, .string (str V1)], .bool false]) (by simp [results, Tryd.results56, go_sem]) rfl ?_
            exact ⟨by rw [HRR.out]; rfl, more_wd _ _ _⟩
        · have HRR := Lib.hid (HRR.out)
          refine calls_wd ?_
          go_enter Tryd.func56, Tryd.ntmps56
          go_wp2_with (first | (go_at_call 37; ((with_reducible refine (HSP.out _ _).mono ?_); rintro e w1 ⟨rfl, rfl⟩)))
          refine wp_region_new [0, 1, 2, 3, 4, 5, 6, 7, 8] 9 5 [10] [true, true, true, true, true, true, true, true, true] [false, false, false, false, false, false, false, false, false, false, true] (fun b => .pointer (some ⟨b, 0, none⟩)) (.cells #[.int .i64 0, .int .i64 0, .bool false, .string { data := #[] }, .bool false, .string { data := #[] }] 71) ⟨rfl, rfl⟩ (by kernel_rfl) (by kernel_rfl) (fun _ _ d _ _ h => by cases d <;> exact h) ⟨_, _, _, _, rfl⟩ ?_
          apply Exists.intro
          refine ⟨?_, ?_, ?_⟩
          · intro E
            simp only [sel_t, sel_f, sel_n]
            repeat (go_big_quiet_step ((first | (go_at_call 54; with_reducible exact Calls.wd_of (H1.out _)) | (go_at_call 54; with_reducible exact Calls.wd_of (H2.out _)))))
            exact wpQuiet_nil rfl
          · intro o ho w0; obtain rfl := Option.some.inj ho; go_simp
          intro e0 m0
          simp only [sel_t, sel_f, sel_n, put_lit, List.set_cons_succ, List.set_cons_zero, shape_cons, shape_nil]
          go_wp2_with (first | (go_at_call 8; ((with_reducible refine (HU.out _).mono ?_); rintro e w1 hq; obtain ⟨rfl, x1, n1, rfl⟩ := hq.out)) | (go_at_call 8; ((with_reducible refine (HV.out _).mono ?_); rintro e w1 hq; obtain ⟨rfl, x3, n3, rfl⟩ := hq.out)) | (go_at_call 49; refine (HJOIN.out _ _ (HST.out _ _ _ _ _)).mono ?_; rintro e w1 ⟨rfl, x2, n2, rfl⟩))
          refine wp_region_tree (fun (s : Ext × Array Value) => wd w [s.1.e, _, _, _, _, _, _, #[.cells s.2 71]] s.1.n) ((⟨_, _⟩, _)) [0, 1, 2, 3, 7] (.one 4 (.one 5 (.one 6 (.two 8 10 (.two 9 10 (.one 10 (.one 11 .done)) (.one 9 (.one 11 .done))) (.one 8 (.one 9 (.one 11 .done))))))) [true, true, true, true, false, false, false, true] (wd_drew _ _ _) rfl (by kernel_rfl) (by kernel_rfl) (fun _ _ d _ _ h => by cases d <;> exact h) ?_
          apply Exists.intro
          refine ⟨?_, ?_⟩
          · intro E
            simp only [sel_t, sel_f, sel_n]
            repeat (go_big_quiet_step ((fail)))
            exact wpQuiet_nil rfl
          refine louds_one [false, false, false, false, true] rfl ?_
          simp only [sel_t, sel_f, sel_n]
          go_wp2
          refine ⟨⟨(⟨_ ++ #[_], _⟩, _), by rw [wd_merge]⟩, ?_⟩
          refine louds_one [false, false, false, false, false, true] rfl ?_
          simp only [sel_t, sel_f, sel_n]
          go_wp2
          refine ⟨⟨(⟨_ ++ #[_], _⟩, _), by rw [wd_merge]⟩, ?_⟩
          refine louds_one [false, false, false, false, false, false, true] rfl ?_
          simp only [sel_t, sel_f, sel_n]
          go_wp2_with (first | (go_at_call 15; ((with_reducible refine Calls.mono (HLX.out _ _ _ ?_) ?_); (exact rfl); rintro e w1 ⟨rfl, x9, n9, rfl⟩)))
          refine ⟨⟨(⟨_ ++ (#[_] ++ x9), n9⟩, _), by rw [wd_merge3]⟩, ?_⟩
          refine louds_two [false, false, false, false, false, false, false, false, true] [false, false, false, false, false, false, false, false, false, false, true] rfl rfl ?_ ?_
          all_goals (simp only [sel_t, sel_f, sel_n])
          focus
            go_wp2
            refine ⟨⟨(⟨_ ++ (#[_] ++ x9), n9⟩, _), by rw [wd_merge3]⟩, ?_⟩
            refine louds_two [false, false, false, false, false, false, false, false, false, true] [false, false, false, false, false, false, false, false, false, false, true] rfl rfl ?_ ?_
            all_goals (simp only [sel_t, sel_f, sel_n])
            focus
              go_wp2
              refine ⟨⟨(⟨_ ++ (#[_] ++ x9), n9⟩, _), by rw [wd_merge3]⟩, ?_⟩
              refine louds_one [false, false, false, false, false, false, false, false, false, false, true] rfl ?_
              simp only [sel_t, sel_f, sel_n]
              go_wp2
              refine ⟨⟨(⟨_ ++ (#[_] ++ x9), n9⟩, _), by rw [wd_merge3]⟩, ?_⟩
              refine louds_one [false, false, false, false, false, false, false, false, false, false, false, true] rfl ?_
              simp only [sel_t, sel_f, sel_n]
              go_wp2
              refine ⟨⟨(⟨_ ++ (#[_] ++ x9), n9⟩, _), by rw [wd_merge3]⟩, ?_⟩
              refine louds_done ?_
              go_wp2
              refine bodyPost_ret (v := .tuple #[.agg #[.int .i64 D1, .int .i64 D2, .bool true, .string (str U1), .bool false, .string (str V1)], .bool ((str RL).toList == (str s).toList)]) (by simp [results, Tryd.results56, go_sem]) rfl ?_
              exact ⟨by rw [HRR.out, ← str_eq]; rfl, more_wd _ _ _⟩
            focus
              go_wp2
              refine ⟨⟨(⟨_ ++ (#[_] ++ x9), n9⟩, _), by rw [wd_merge3]⟩, ?_⟩
              refine louds_one [false, false, false, false, false, false, false, false, false, true] rfl ?_
              simp only [sel_t, sel_f, sel_n]
              go_wp2
              refine ⟨⟨(⟨_ ++ (#[_] ++ x9), n9⟩, _), by rw [wd_merge3]⟩, ?_⟩
              refine louds_one [false, false, false, false, false, false, false, false, false, false, false, true] rfl ?_
              simp only [sel_t, sel_f, sel_n]
              go_wp2
              refine ⟨⟨(⟨_ ++ (#[_] ++ x9), n9⟩, _), by rw [wd_merge3]⟩, ?_⟩
              refine louds_done ?_
              go_wp2
              refine bodyPost_ret (v := .tuple #[.agg #[.int .i64 D1, .int .i64 D2, .bool true, .string (str U1), .bool false, .string (str V1)], .bool ((str RL).toList == (str s).toList)]) (by simp [results, Tryd.results56, go_sem]) rfl ?_
              exact ⟨by rw [HRR.out, ← str_eq]; rfl, more_wd _ _ _⟩
          focus
            go_wp2
            refine ⟨⟨(⟨_ ++ (#[_] ++ x9), n9⟩, _), by rw [wd_merge3]⟩, ?_⟩
            refine louds_one [false, false, false, false, false, false, false, false, true] rfl ?_
            simp only [sel_t, sel_f, sel_n]
            go_wp2
            refine ⟨⟨(⟨_ ++ (#[_] ++ x9), n9⟩, _), by rw [wd_merge3]⟩, ?_⟩
            refine louds_one [false, false, false, false, false, false, false, false, false, true] rfl ?_
            simp only [sel_t, sel_f, sel_n]
            go_wp2
            refine ⟨⟨(⟨_ ++ (#[_] ++ x9), n9⟩, _), by rw [wd_merge3]⟩, ?_⟩
            refine louds_one [false, false, false, false, false, false, false, false, false, false, false, true] rfl ?_
            simp only [sel_t, sel_f, sel_n]
            go_wp2
            refine ⟨⟨(⟨_ ++ (#[_] ++ x9), n9⟩, _), by rw [wd_merge3]⟩, ?_⟩
            refine louds_done ?_
            go_wp2
            refine bodyPost_ret (v := .tuple #[.agg #[.int .i64 D1, .int .i64 D2, .bool true, .string (str U1), .bool false, .string (str V1)], .bool ((str RL).toList == (str s).toList)]) (by simp [results, Tryd.results56, go_sem]) rfl ?_
            exact ⟨by rw [HRR.out, ← str_eq]; rfl, more_wd _ _ _⟩
end Go.Proofs.YtejokhgabcldhaaDoor
