/- record, the reference: Get. -/
import Derived.Test.YtejokhgabcldhaaMD
namespace Go.Proofs.Ytejokhgabcldhaa
open Go.ChangeShapes Go.WideShapes Go.ChangeAt Go.RowKit
set_option linter.unusedVariables false
set_option linter.unusedSimpArgs false

/-- A record off the reference's reader. -/
structure RRecGot (w w' : World) (x : Ending) (v : Value) (l : List UInt8) (g : List UInt8 × Int × Rec × Int) : Prop where
  out : ∃ v', x = .returned (.tuple #[.agg #[v', .int .i64 g.2.1], recV g.2.2.1, .int .i64 g.2.2.2]) ∧ (∀ W0, RB W0 v l → RB W0 v' g.1) ∧ More w w'
theorem rrecgot {w : World} {x : Ending} {v v' : Value} {l l' : List UInt8} {e' e : Int} {g : List UInt8 × Int × Rec × Int} {r : Rec} (L : List (Array Obj)) (n : Nat) (hg : g = (l', e', r, e)) (hx : x = .returned (.tuple #[.agg #[v', .int .i64 e'], recV r, .int .i64 e]))
    (hk : ∀ W0, RB W0 v l → RB W0 v' l') : RRecGot w (wd w L n) x v l g := by
  subst hg hx
  exact ⟨v', rfl, hk, more_wd _ _ _⟩
set_option maxRecDepth 100000 in
set_option maxHeartbeats 6400000 in
theorem rrecget_any (v : Value) (l : List UInt8) (e : Int) (w : World) (hv : RB w v l) : Calls Try.prog 164 #[.agg #[v, .int .i64 e]] w fun x w' => RRecGot w w' x v l (recGet l e) := by
  have HV := Lib.hid hv
  obtain ⟨n, hn, hf⟩ := fixV_nat l e
  have HG := Lib.hid (fun K V => recGet_eq l e n hf K V)
  have hfix := fun (W : World) (h : RB W v l) => hf ▸ rfix_any v l e W h
  clear hf
  obtain ⟨a, cap, rfl, -, -, -⟩ := hv
  have a1 : (n : Int) % 2 = ((n % 2 : Nat) : Int) := by omega
  have a2 : (n : Int) / 2 % 2 = ((n / 2 % 2 : Nat) : Int) := by omega
  generalize fixL l e = l1 at hfix HG
  generalize fixE l e = e1 at hfix HG
  have hnum1 := fun (v1 : Value) (W : World) (h : RB W v1 l1) => rnum_any v1 l1 e1 W h
  generalize numL l1 e1 = l2 at hnum1 HG
  generalize numE l1 e1 = e2 at hnum1 HG
  generalize numV l1 e1 = d at hnum1 HG
  have hnum2 := fun (v1 : Value) (W : World) (h : RB W v1 l2) => rnum_any v1 l2 e2 W h
  generalize numL l2 e2 = l3 at hnum2 HG
  generalize numE l2 e2 = e3 at hnum2 HG
  generalize numV l2 e2 = t at hnum2 HG
  by_cases h1 : n % 2 = 1 <;> by_cases h2 : n / 2 % 2 = 1
  · -- keyed 1 dead 1
    have e1' : n % 2 = 1 := by omega
    have e2' : n / 2 % 2 = 1 := by omega
    rw [e1'] at a1
    rw [e2'] at a2
    clear e1' e2'
    have htx1 := fun (v1 : Value) (W : World) (h : RB W v1 l3) => rtxt_any v1 l3 e3 64 (by decide) W h
    have HG1 := Lib.hid (HG.out (txt l3 e3 64) _ (by rw [if_pos h1]) rfl)
    rw [if_pos h2] at HG1
    clear HG
    simp only [h1, h2, decide_true, decide_false] at HG1
    clear h1 h2
    generalize txt l3 e3 64 = T at htx1 HG1
    obtain ⟨k1, k2, k3⟩ := T
    dsimp only at htx1 HG1
    have hck := fun W => rrcheck_x d t true true k3 [] W
    simp only [show str [] = ⟨#[]⟩ from rfl] at hck
    by_cases hE : k2 = 0
    · by_cases h4 : 3 < (n : Int)
      · have HX := Lib.hid (recend_form HG1.out hE (.inl (by omega)))
        subst hE
        clear HG1 hck
        refine calls_wd ?_
        go_enter Try.func164, Try.ntmps164
        go_wp2_with (first
            | (go_at_call 68; ((with_reducible refine (hfix _ (HV.out.more (more_wd w _ _))).mono ?_); rintro x w1 ⟨v1, rfl, hb1, y1, q1, rfl⟩; have HB1 := Lib.hid (hb1); clear hb1; obtain ⟨aa1, cc1, rfl, -, -, -⟩ := HB1.out w HV.out))
            | (go_at_call 67; ((with_reducible refine (hnum1 _ _ (HB1.out _ (HV.out.more (more_wd w _ _)))).mono ?_); rintro x w1 ⟨v2, rfl, hb2, y2, q2, rfl⟩; have HB2 := Lib.hid (keep_trans HB1.out hb2); clear hb2; obtain ⟨aa2, cc2, rfl, -, -, -⟩ := HB2.out w HV.out))
            | (go_at_call 67; ((with_reducible refine (hnum2 _ _ (HB2.out _ (HV.out.more (more_wd w _ _)))).mono ?_); rintro x w1 ⟨v3, rfl, hb3, y3, q3, rfl⟩; have HB3 := Lib.hid (keep_trans HB2.out hb3); clear hb3; obtain ⟨aa3, cc3, rfl, -, -, -⟩ := HB3.out w HV.out))
            | (go_at_call 72; ((with_reducible refine (htx1 _ _ (HB3.out _ (HV.out.more (more_wd w _ _)))).mono ?_); rintro x w1 ⟨v4, rfl, hb4, y4, q4, rfl⟩; have HB4 := Lib.hid (keep_trans HB3.out hb4); clear hb4; obtain ⟨aa4, cc4, rfl, -, -, -⟩ := HB4.out w HV.out))
            | (go_at_call 159; ((with_reducible refine (hck _).mono ?_); rintro e w1 ⟨rfl, x1, n1, rfl⟩)))
        all_goals refine bodyPost_ret (v := .tuple #[.agg #[.slice aa4 k1.length cc4, .int .i64 0], .agg #[.int .i64 0, .int .i64 0, .bool false, .string ⟨#[]⟩, .bool false, .string ⟨#[]⟩], .int .i64 4]) (by simp [results, Try.results164, go_sem]) rfl (rrecgot _ _ HX.out rfl HB4.out)
      · have hd4 : decide (3 < (n : Int)) = false := by simpa using h4
        generalize hC : recCheck ⟨d, t, true, k3, true, []⟩ = C at hck
        by_cases hc0 : C = 0
        · have HX := Lib.hid (recend_ok HG1.out hE (by omega) (hC.trans hc0))
          subst hE hc0
          clear HG1 hC
          refine calls_wd ?_
          go_enter Try.func164, Try.ntmps164
          go_wp2_with (first
              | (go_at_call 68; ((with_reducible refine (hfix _ (HV.out.more (more_wd w _ _))).mono ?_); rintro x w1 ⟨v1, rfl, hb1, y1, q1, rfl⟩; have HB1 := Lib.hid (hb1); clear hb1; obtain ⟨aa1, cc1, rfl, -, -, -⟩ := HB1.out w HV.out))
              | (go_at_call 67; ((with_reducible refine (hnum1 _ _ (HB1.out _ (HV.out.more (more_wd w _ _)))).mono ?_); rintro x w1 ⟨v2, rfl, hb2, y2, q2, rfl⟩; have HB2 := Lib.hid (keep_trans HB1.out hb2); clear hb2; obtain ⟨aa2, cc2, rfl, -, -, -⟩ := HB2.out w HV.out))
              | (go_at_call 67; ((with_reducible refine (hnum2 _ _ (HB2.out _ (HV.out.more (more_wd w _ _)))).mono ?_); rintro x w1 ⟨v3, rfl, hb3, y3, q3, rfl⟩; have HB3 := Lib.hid (keep_trans HB2.out hb3); clear hb3; obtain ⟨aa3, cc3, rfl, -, -, -⟩ := HB3.out w HV.out))
              | (go_at_call 72; ((with_reducible refine (htx1 _ _ (HB3.out _ (HV.out.more (more_wd w _ _)))).mono ?_); rintro x w1 ⟨v4, rfl, hb4, y4, q4, rfl⟩; have HB4 := Lib.hid (keep_trans HB3.out hb4); clear hb4; obtain ⟨aa4, cc4, rfl, -, -, -⟩ := HB4.out w HV.out))
              | (go_at_call 159; ((with_reducible refine (hck _).mono ?_); rintro e w1 ⟨rfl, x1, n1, rfl⟩)))
          refine wp_region_tree (fun (s : Value × Value × Array Value) => wd w [_, _, _, _, _, _, #[.cells s.2.2 99], #[.cells #[s.1, s.2.1] 118], _] _) ((_, _, _)) [0, 1] (.one 2 (.one 3 (.one 4 .done))) [true, true] (wd_drew _ _ _) rfl (by kernel_rfl) (by kernel_rfl) (fun _ _ d _ _ h => by cases d <;> exact h) ?_
          apply Exists.intro
          refine ⟨?_, ?_⟩
          · intro E
            simp only [sel_t, sel_f, sel_n]
            repeat (go_big_quiet_step ((fail)))
            exact wpQuiet_nil rfl
          refine louds_one [false, false, true] rfl ?_
          simp only [sel_t, sel_f, sel_n]
          go_wp2
          refine ⟨⟨(_, _, _), rfl⟩, ?_⟩
          refine louds_one [false, false, false, true] rfl ?_
          simp only [sel_t, sel_f, sel_n]
          go_wp2
          refine ⟨⟨(_, _, _), rfl⟩, ?_⟩
          refine louds_one [false, false, false, false, true] rfl ?_
          simp only [sel_t, sel_f, sel_n]
          go_wp2
          refine ⟨⟨(_, _, _), rfl⟩, ?_⟩
          refine louds_done ?_
          go_wp2
          all_goals refine bodyPost_ret (v := .tuple #[.agg #[.slice aa4 k1.length cc4, .int .i64 0], .agg #[.int .i64 d, .int .i64 t, .bool true, .string (str k3), .bool true, .string ⟨#[]⟩], .int .i64 0]) (by simp [results, Try.results164, go_sem]) rfl (rrecgot _ _ HX.out rfl HB4.out)
        · have HX := Lib.hid (recend_form HG1.out hE (.inr (by rw [hC]; exact hc0)))
          have hne : (C == 0) = false := by rw [beq_eq_false_iff_ne]; exact hc0
          subst hE
          clear HG1 hC
          refine calls_wd ?_
          go_enter Try.func164, Try.ntmps164
          go_wp2_with (first
              | (go_at_call 68; ((with_reducible refine (hfix _ (HV.out.more (more_wd w _ _))).mono ?_); rintro x w1 ⟨v1, rfl, hb1, y1, q1, rfl⟩; have HB1 := Lib.hid (hb1); clear hb1; obtain ⟨aa1, cc1, rfl, -, -, -⟩ := HB1.out w HV.out))
              | (go_at_call 67; ((with_reducible refine (hnum1 _ _ (HB1.out _ (HV.out.more (more_wd w _ _)))).mono ?_); rintro x w1 ⟨v2, rfl, hb2, y2, q2, rfl⟩; have HB2 := Lib.hid (keep_trans HB1.out hb2); clear hb2; obtain ⟨aa2, cc2, rfl, -, -, -⟩ := HB2.out w HV.out))
              | (go_at_call 67; ((with_reducible refine (hnum2 _ _ (HB2.out _ (HV.out.more (more_wd w _ _)))).mono ?_); rintro x w1 ⟨v3, rfl, hb3, y3, q3, rfl⟩; have HB3 := Lib.hid (keep_trans HB2.out hb3); clear hb3; obtain ⟨aa3, cc3, rfl, -, -, -⟩ := HB3.out w HV.out))
              | (go_at_call 72; ((with_reducible refine (htx1 _ _ (HB3.out _ (HV.out.more (more_wd w _ _)))).mono ?_); rintro x w1 ⟨v4, rfl, hb4, y4, q4, rfl⟩; have HB4 := Lib.hid (keep_trans HB3.out hb4); clear hb4; obtain ⟨aa4, cc4, rfl, -, -, -⟩ := HB4.out w HV.out))
              | (go_at_call 159; ((with_reducible refine (hck _).mono ?_); rintro e w1 ⟨rfl, x1, n1, rfl⟩)))
          all_goals refine bodyPost_ret (v := .tuple #[.agg #[.slice aa4 k1.length cc4, .int .i64 0], .agg #[.int .i64 0, .int .i64 0, .bool false, .string ⟨#[]⟩, .bool false, .string ⟨#[]⟩], .int .i64 4]) (by simp [results, Try.results164, go_sem]) rfl (rrecgot _ _ HX.out rfl HB4.out)
    · have HX := Lib.hid (recend_err HG1.out hE)
      have hne : (k2 == 0) = false := by rw [beq_eq_false_iff_ne]; exact hE
      clear HG1 hck
      refine calls_wd ?_
      go_enter Try.func164, Try.ntmps164
      go_wp2_with (first
          | (go_at_call 68; ((with_reducible refine (hfix _ (HV.out.more (more_wd w _ _))).mono ?_); rintro x w1 ⟨v1, rfl, hb1, y1, q1, rfl⟩; have HB1 := Lib.hid (hb1); clear hb1; obtain ⟨aa1, cc1, rfl, -, -, -⟩ := HB1.out w HV.out))
          | (go_at_call 67; ((with_reducible refine (hnum1 _ _ (HB1.out _ (HV.out.more (more_wd w _ _)))).mono ?_); rintro x w1 ⟨v2, rfl, hb2, y2, q2, rfl⟩; have HB2 := Lib.hid (keep_trans HB1.out hb2); clear hb2; obtain ⟨aa2, cc2, rfl, -, -, -⟩ := HB2.out w HV.out))
          | (go_at_call 67; ((with_reducible refine (hnum2 _ _ (HB2.out _ (HV.out.more (more_wd w _ _)))).mono ?_); rintro x w1 ⟨v3, rfl, hb3, y3, q3, rfl⟩; have HB3 := Lib.hid (keep_trans HB2.out hb3); clear hb3; obtain ⟨aa3, cc3, rfl, -, -, -⟩ := HB3.out w HV.out))
          | (go_at_call 72; ((with_reducible refine (htx1 _ _ (HB3.out _ (HV.out.more (more_wd w _ _)))).mono ?_); rintro x w1 ⟨v4, rfl, hb4, y4, q4, rfl⟩; have HB4 := Lib.hid (keep_trans HB3.out hb4); clear hb4; obtain ⟨aa4, cc4, rfl, -, -, -⟩ := HB4.out w HV.out))
          | (go_at_call 159; ((with_reducible refine (hck _).mono ?_); rintro e w1 ⟨rfl, x1, n1, rfl⟩)))
      refine wp_region_tree (fun (s : Value × Value × Array Value) => wd w [_, _, _, _, _, #[.cells s.2.2 99], #[.cells #[s.1, s.2.1] 118], _] _) ((_, _, _)) [0, 1, 2, 3] (.one 4 (.one 5 (.one 6 .done))) [true, true, true, true] (wd_drew _ _ _) rfl (by kernel_rfl) (by kernel_rfl) (fun _ _ d _ _ h => by cases d <;> exact h) ?_
      apply Exists.intro
      refine ⟨?_, ?_⟩
      · intro E
        simp only [sel_t, sel_f, sel_n]
        repeat (go_big_quiet_step ((fail)))
        exact wpQuiet_nil rfl
      refine louds_one [false, false, false, false, true] rfl ?_
      simp only [sel_t, sel_f, sel_n]
      go_wp2
      refine ⟨⟨(_, _, _), rfl⟩, ?_⟩
      refine louds_one [false, false, false, false, false, true] rfl ?_
      simp only [sel_t, sel_f, sel_n]
      go_wp2
      refine ⟨⟨(_, _, _), rfl⟩, ?_⟩
      refine louds_one [false, false, false, false, false, false, true] rfl ?_
      simp only [sel_t, sel_f, sel_n]
      go_wp2
      refine ⟨⟨(_, _, _), rfl⟩, ?_⟩
      refine louds_done ?_
      go_wp2
      all_goals refine bodyPost_ret (v := .tuple #[.agg #[.slice aa4 k1.length cc4, .int .i64 k2], .agg #[.int .i64 0, .int .i64 0, .bool false, .string ⟨#[]⟩, .bool false, .string ⟨#[]⟩], .int .i64 k2]) (by simp [results, Try.results164, go_sem]) rfl (rrecgot _ _ HX.out rfl HB4.out)
  · -- keyed 1 dead 0
    have e1' : n % 2 = 1 := by omega
    have e2' : n / 2 % 2 = 0 := by omega
    rw [e1'] at a1
    rw [e2'] at a2
    clear e1' e2'
    have htx1 := fun (v1 : Value) (W : World) (h : RB W v1 l3) => rtxt_any v1 l3 e3 64 (by decide) W h
    have HG1 := Lib.hid (HG.out (txt l3 e3 64) _ (by rw [if_pos h1]) rfl)
    rw [if_neg h2] at HG1
    clear HG
    simp only [h1, h2, decide_true, decide_false] at HG1
    clear h1 h2
    generalize txt l3 e3 64 = T at htx1 HG1
    obtain ⟨k1, k2, k3⟩ := T
    dsimp only at htx1 HG1
    have htx2 := fun (v1 : Value) (W : World) (h : RB W v1 k1) => rtxt_any v1 k1 k2 512 (by decide) W h
    generalize txt k1 k2 512 = T at htx2 HG1
    obtain ⟨j1, j2, j3⟩ := T
    dsimp only at htx2 HG1
    have hck := fun W => rrcheck_x d t true false k3 j3 W
    by_cases hE : j2 = 0
    · by_cases h4 : 3 < (n : Int)
      · have HX := Lib.hid (recend_form HG1.out hE (.inl (by omega)))
        subst hE
        clear HG1 hck
        refine calls_wd ?_
        go_enter Try.func164, Try.ntmps164
        go_wp2_with (first
            | (go_at_call 68; ((with_reducible refine (hfix _ (HV.out.more (more_wd w _ _))).mono ?_); rintro x w1 ⟨v1, rfl, hb1, y1, q1, rfl⟩; have HB1 := Lib.hid (hb1); clear hb1; obtain ⟨aa1, cc1, rfl, -, -, -⟩ := HB1.out w HV.out))
            | (go_at_call 67; ((with_reducible refine (hnum1 _ _ (HB1.out _ (HV.out.more (more_wd w _ _)))).mono ?_); rintro x w1 ⟨v2, rfl, hb2, y2, q2, rfl⟩; have HB2 := Lib.hid (keep_trans HB1.out hb2); clear hb2; obtain ⟨aa2, cc2, rfl, -, -, -⟩ := HB2.out w HV.out))
            | (go_at_call 67; ((with_reducible refine (hnum2 _ _ (HB2.out _ (HV.out.more (more_wd w _ _)))).mono ?_); rintro x w1 ⟨v3, rfl, hb3, y3, q3, rfl⟩; have HB3 := Lib.hid (keep_trans HB2.out hb3); clear hb3; obtain ⟨aa3, cc3, rfl, -, -, -⟩ := HB3.out w HV.out))
            | (go_at_call 72; ((with_reducible refine (htx1 _ _ (HB3.out _ (HV.out.more (more_wd w _ _)))).mono ?_); rintro x w1 ⟨v4, rfl, hb4, y4, q4, rfl⟩; have HB4 := Lib.hid (keep_trans HB3.out hb4); clear hb4; obtain ⟨aa4, cc4, rfl, -, -, -⟩ := HB4.out w HV.out))
            | (go_at_call 72; ((with_reducible refine (htx2 _ _ (HB4.out _ (HV.out.more (more_wd w _ _)))).mono ?_); rintro x w1 ⟨v5, rfl, hb5, y5, q5, rfl⟩; have HB5 := Lib.hid (keep_trans HB4.out hb5); clear hb5; obtain ⟨aa5, cc5, rfl, -, -, -⟩ := HB5.out w HV.out))
            | (go_at_call 159; ((with_reducible refine (hck _).mono ?_); rintro e w1 ⟨rfl, x1, n1, rfl⟩)))
        all_goals refine bodyPost_ret (v := .tuple #[.agg #[.slice aa5 j1.length cc5, .int .i64 0], .agg #[.int .i64 0, .int .i64 0, .bool false, .string ⟨#[]⟩, .bool false, .string ⟨#[]⟩], .int .i64 4]) (by simp [results, Try.results164, go_sem]) rfl (rrecgot _ _ HX.out rfl HB5.out)
      · have hd4 : decide (3 < (n : Int)) = false := by simpa using h4
        generalize hC : recCheck ⟨d, t, true, k3, false, j3⟩ = C at hck
        by_cases hc0 : C = 0
        · have HX := Lib.hid (recend_ok HG1.out hE (by omega) (hC.trans hc0))
          subst hE hc0
          clear HG1 hC
          refine calls_wd ?_
          go_enter Try.func164, Try.ntmps164
          go_wp2_with (first
              | (go_at_call 68; ((with_reducible refine (hfix _ (HV.out.more (more_wd w _ _))).mono ?_); rintro x w1 ⟨v1, rfl, hb1, y1, q1, rfl⟩; have HB1 := Lib.hid (hb1); clear hb1; obtain ⟨aa1, cc1, rfl, -, -, -⟩ := HB1.out w HV.out))
              | (go_at_call 67; ((with_reducible refine (hnum1 _ _ (HB1.out _ (HV.out.more (more_wd w _ _)))).mono ?_); rintro x w1 ⟨v2, rfl, hb2, y2, q2, rfl⟩; have HB2 := Lib.hid (keep_trans HB1.out hb2); clear hb2; obtain ⟨aa2, cc2, rfl, -, -, -⟩ := HB2.out w HV.out))
              | (go_at_call 67; ((with_reducible refine (hnum2 _ _ (HB2.out _ (HV.out.more (more_wd w _ _)))).mono ?_); rintro x w1 ⟨v3, rfl, hb3, y3, q3, rfl⟩; have HB3 := Lib.hid (keep_trans HB2.out hb3); clear hb3; obtain ⟨aa3, cc3, rfl, -, -, -⟩ := HB3.out w HV.out))
              | (go_at_call 72; ((with_reducible refine (htx1 _ _ (HB3.out _ (HV.out.more (more_wd w _ _)))).mono ?_); rintro x w1 ⟨v4, rfl, hb4, y4, q4, rfl⟩; have HB4 := Lib.hid (keep_trans HB3.out hb4); clear hb4; obtain ⟨aa4, cc4, rfl, -, -, -⟩ := HB4.out w HV.out))
              | (go_at_call 72; ((with_reducible refine (htx2 _ _ (HB4.out _ (HV.out.more (more_wd w _ _)))).mono ?_); rintro x w1 ⟨v5, rfl, hb5, y5, q5, rfl⟩; have HB5 := Lib.hid (keep_trans HB4.out hb5); clear hb5; obtain ⟨aa5, cc5, rfl, -, -, -⟩ := HB5.out w HV.out))
              | (go_at_call 159; ((with_reducible refine (hck _).mono ?_); rintro e w1 ⟨rfl, x1, n1, rfl⟩)))
          refine wp_region_tree (fun (s : Value × Value × Array Value) => wd w [_, _, _, _, _, _, _, #[.cells s.2.2 99], #[.cells #[s.1, s.2.1] 118], _] _) ((_, _, _)) [0, 1] (.one 2 (.one 3 (.one 4 .done))) [true, true] (wd_drew _ _ _) rfl (by kernel_rfl) (by kernel_rfl) (fun _ _ d _ _ h => by cases d <;> exact h) ?_
          apply Exists.intro
          refine ⟨?_, ?_⟩
          · intro E
            simp only [sel_t, sel_f, sel_n]
            repeat (go_big_quiet_step ((fail)))
            exact wpQuiet_nil rfl
          refine louds_one [false, false, true] rfl ?_
          simp only [sel_t, sel_f, sel_n]
          go_wp2
          refine ⟨⟨(_, _, _), rfl⟩, ?_⟩
          refine louds_one [false, false, false, true] rfl ?_
          simp only [sel_t, sel_f, sel_n]
          go_wp2
          refine ⟨⟨(_, _, _), rfl⟩, ?_⟩
          refine louds_one [false, false, false, false, true] rfl ?_
          simp only [sel_t, sel_f, sel_n]
          go_wp2
          refine ⟨⟨(_, _, _), rfl⟩, ?_⟩
          refine louds_done ?_
          go_wp2
          all_goals refine bodyPost_ret (v := .tuple #[.agg #[.slice aa5 j1.length cc5, .int .i64 0], .agg #[.int .i64 d, .int .i64 t, .bool true, .string (str k3), .bool false, .string (str j3)], .int .i64 0]) (by simp [results, Try.results164, go_sem]) rfl (rrecgot _ _ HX.out rfl HB5.out)
        · have HX := Lib.hid (recend_form HG1.out hE (.inr (by rw [hC]; exact hc0)))
          have hne : (C == 0) = false := by rw [beq_eq_false_iff_ne]; exact hc0
          subst hE
          clear HG1 hC
          refine calls_wd ?_
          go_enter Try.func164, Try.ntmps164
          go_wp2_with (first
              | (go_at_call 68; ((with_reducible refine (hfix _ (HV.out.more (more_wd w _ _))).mono ?_); rintro x w1 ⟨v1, rfl, hb1, y1, q1, rfl⟩; have HB1 := Lib.hid (hb1); clear hb1; obtain ⟨aa1, cc1, rfl, -, -, -⟩ := HB1.out w HV.out))
              | (go_at_call 67; ((with_reducible refine (hnum1 _ _ (HB1.out _ (HV.out.more (more_wd w _ _)))).mono ?_); rintro x w1 ⟨v2, rfl, hb2, y2, q2, rfl⟩; have HB2 := Lib.hid (keep_trans HB1.out hb2); clear hb2; obtain ⟨aa2, cc2, rfl, -, -, -⟩ := HB2.out w HV.out))
              | (go_at_call 67; ((with_reducible refine (hnum2 _ _ (HB2.out _ (HV.out.more (more_wd w _ _)))).mono ?_); rintro x w1 ⟨v3, rfl, hb3, y3, q3, rfl⟩; have HB3 := Lib.hid (keep_trans HB2.out hb3); clear hb3; obtain ⟨aa3, cc3, rfl, -, -, -⟩ := HB3.out w HV.out))
              | (go_at_call 72; ((with_reducible refine (htx1 _ _ (HB3.out _ (HV.out.more (more_wd w _ _)))).mono ?_); rintro x w1 ⟨v4, rfl, hb4, y4, q4, rfl⟩; have HB4 := Lib.hid (keep_trans HB3.out hb4); clear hb4; obtain ⟨aa4, cc4, rfl, -, -, -⟩ := HB4.out w HV.out))
              | (go_at_call 72; ((with_reducible refine (htx2 _ _ (HB4.out _ (HV.out.more (more_wd w _ _)))).mono ?_); rintro x w1 ⟨v5, rfl, hb5, y5, q5, rfl⟩; have HB5 := Lib.hid (keep_trans HB4.out hb5); clear hb5; obtain ⟨aa5, cc5, rfl, -, -, -⟩ := HB5.out w HV.out))
              | (go_at_call 159; ((with_reducible refine (hck _).mono ?_); rintro e w1 ⟨rfl, x1, n1, rfl⟩)))
          all_goals refine bodyPost_ret (v := .tuple #[.agg #[.slice aa5 j1.length cc5, .int .i64 0], .agg #[.int .i64 0, .int .i64 0, .bool false, .string ⟨#[]⟩, .bool false, .string ⟨#[]⟩], .int .i64 4]) (by simp [results, Try.results164, go_sem]) rfl (rrecgot _ _ HX.out rfl HB5.out)
    · have HX := Lib.hid (recend_err HG1.out hE)
      have hne : (j2 == 0) = false := by rw [beq_eq_false_iff_ne]; exact hE
      clear HG1 hck
      refine calls_wd ?_
      go_enter Try.func164, Try.ntmps164
      go_wp2_with (first
          | (go_at_call 68; ((with_reducible refine (hfix _ (HV.out.more (more_wd w _ _))).mono ?_); rintro x w1 ⟨v1, rfl, hb1, y1, q1, rfl⟩; have HB1 := Lib.hid (hb1); clear hb1; obtain ⟨aa1, cc1, rfl, -, -, -⟩ := HB1.out w HV.out))
          | (go_at_call 67; ((with_reducible refine (hnum1 _ _ (HB1.out _ (HV.out.more (more_wd w _ _)))).mono ?_); rintro x w1 ⟨v2, rfl, hb2, y2, q2, rfl⟩; have HB2 := Lib.hid (keep_trans HB1.out hb2); clear hb2; obtain ⟨aa2, cc2, rfl, -, -, -⟩ := HB2.out w HV.out))
          | (go_at_call 67; ((with_reducible refine (hnum2 _ _ (HB2.out _ (HV.out.more (more_wd w _ _)))).mono ?_); rintro x w1 ⟨v3, rfl, hb3, y3, q3, rfl⟩; have HB3 := Lib.hid (keep_trans HB2.out hb3); clear hb3; obtain ⟨aa3, cc3, rfl, -, -, -⟩ := HB3.out w HV.out))
          | (go_at_call 72; ((with_reducible refine (htx1 _ _ (HB3.out _ (HV.out.more (more_wd w _ _)))).mono ?_); rintro x w1 ⟨v4, rfl, hb4, y4, q4, rfl⟩; have HB4 := Lib.hid (keep_trans HB3.out hb4); clear hb4; obtain ⟨aa4, cc4, rfl, -, -, -⟩ := HB4.out w HV.out))
          | (go_at_call 72; ((with_reducible refine (htx2 _ _ (HB4.out _ (HV.out.more (more_wd w _ _)))).mono ?_); rintro x w1 ⟨v5, rfl, hb5, y5, q5, rfl⟩; have HB5 := Lib.hid (keep_trans HB4.out hb5); clear hb5; obtain ⟨aa5, cc5, rfl, -, -, -⟩ := HB5.out w HV.out))
          | (go_at_call 159; ((with_reducible refine (hck _).mono ?_); rintro e w1 ⟨rfl, x1, n1, rfl⟩)))
      refine wp_region_tree (fun (s : Value × Value × Array Value) => wd w [_, _, _, _, _, _, #[.cells s.2.2 99], #[.cells #[s.1, s.2.1] 118], _] _) ((_, _, _)) [0, 1, 2, 3] (.one 4 (.one 5 (.one 6 .done))) [true, true, true, true] (wd_drew _ _ _) rfl (by kernel_rfl) (by kernel_rfl) (fun _ _ d _ _ h => by cases d <;> exact h) ?_
      apply Exists.intro
      refine ⟨?_, ?_⟩
      · intro E
        simp only [sel_t, sel_f, sel_n]
        repeat (go_big_quiet_step ((fail)))
        exact wpQuiet_nil rfl
      refine louds_one [false, false, false, false, true] rfl ?_
      simp only [sel_t, sel_f, sel_n]
      go_wp2
      refine ⟨⟨(_, _, _), rfl⟩, ?_⟩
      refine louds_one [false, false, false, false, false, true] rfl ?_
      simp only [sel_t, sel_f, sel_n]
      go_wp2
      refine ⟨⟨(_, _, _), rfl⟩, ?_⟩
      refine louds_one [false, false, false, false, false, false, true] rfl ?_
      simp only [sel_t, sel_f, sel_n]
      go_wp2
      refine ⟨⟨(_, _, _), rfl⟩, ?_⟩
      refine louds_done ?_
      go_wp2
      all_goals refine bodyPost_ret (v := .tuple #[.agg #[.slice aa5 j1.length cc5, .int .i64 j2], .agg #[.int .i64 0, .int .i64 0, .bool false, .string ⟨#[]⟩, .bool false, .string ⟨#[]⟩], .int .i64 j2]) (by simp [results, Try.results164, go_sem]) rfl (rrecgot _ _ HX.out rfl HB5.out)
  · -- keyed 0 dead 1
    have e1' : n % 2 = 0 := by omega
    have e2' : n / 2 % 2 = 1 := by omega
    rw [e1'] at a1
    rw [e2'] at a2
    clear e1' e2'
    have HG1 := Lib.hid (HG.out (l3, e3, []) _ (by rw [if_neg h1]) rfl)
    rw [if_pos h2] at HG1
    clear HG
    simp only [h1, h2, decide_true, decide_false] at HG1
    clear h1 h2
    have hck := fun W => rrcheck_x d t false true [] [] W
    simp only [show str [] = ⟨#[]⟩ from rfl] at hck
    by_cases hE : e3 = 0
    · by_cases h4 : 3 < (n : Int)
      · have HX := Lib.hid (recend_form HG1.out hE (.inl (by omega)))
        subst hE
        clear HG1 hck
        refine calls_wd ?_
        go_enter Try.func164, Try.ntmps164
        go_wp2_with (first
            | (go_at_call 68; ((with_reducible refine (hfix _ (HV.out.more (more_wd w _ _))).mono ?_); rintro x w1 ⟨v1, rfl, hb1, y1, q1, rfl⟩; have HB1 := Lib.hid (hb1); clear hb1; obtain ⟨aa1, cc1, rfl, -, -, -⟩ := HB1.out w HV.out))
            | (go_at_call 67; ((with_reducible refine (hnum1 _ _ (HB1.out _ (HV.out.more (more_wd w _ _)))).mono ?_); rintro x w1 ⟨v2, rfl, hb2, y2, q2, rfl⟩; have HB2 := Lib.hid (keep_trans HB1.out hb2); clear hb2; obtain ⟨aa2, cc2, rfl, -, -, -⟩ := HB2.out w HV.out))
            | (go_at_call 67; ((with_reducible refine (hnum2 _ _ (HB2.out _ (HV.out.more (more_wd w _ _)))).mono ?_); rintro x w1 ⟨v3, rfl, hb3, y3, q3, rfl⟩; have HB3 := Lib.hid (keep_trans HB2.out hb3); clear hb3; obtain ⟨aa3, cc3, rfl, -, -, -⟩ := HB3.out w HV.out))
            | (go_at_call 159; ((with_reducible refine (hck _).mono ?_); rintro e w1 ⟨rfl, x1, n1, rfl⟩)))
        all_goals refine bodyPost_ret (v := .tuple #[.agg #[.slice aa3 l3.length cc3, .int .i64 0], .agg #[.int .i64 0, .int .i64 0, .bool false, .string ⟨#[]⟩, .bool false, .string ⟨#[]⟩], .int .i64 4]) (by simp [results, Try.results164, go_sem]) rfl (rrecgot _ _ HX.out rfl HB3.out)
      · have hd4 : decide (3 < (n : Int)) = false := by simpa using h4
        generalize hC : recCheck ⟨d, t, false, [], true, []⟩ = C at hck
        by_cases hc0 : C = 0
        · have HX := Lib.hid (recend_ok HG1.out hE (by omega) (hC.trans hc0))
          subst hE hc0
          clear HG1 hC
          refine calls_wd ?_
          go_enter Try.func164, Try.ntmps164
          go_wp2_with (first
              | (go_at_call 68; ((with_reducible refine (hfix _ (HV.out.more (more_wd w _ _))).mono ?_); rintro x w1 ⟨v1, rfl, hb1, y1, q1, rfl⟩; have HB1 := Lib.hid (hb1); clear hb1; obtain ⟨aa1, cc1, rfl, -, -, -⟩ := HB1.out w HV.out))
              | (go_at_call 67; ((with_reducible refine (hnum1 _ _ (HB1.out _ (HV.out.more (more_wd w _ _)))).mono ?_); rintro x w1 ⟨v2, rfl, hb2, y2, q2, rfl⟩; have HB2 := Lib.hid (keep_trans HB1.out hb2); clear hb2; obtain ⟨aa2, cc2, rfl, -, -, -⟩ := HB2.out w HV.out))
              | (go_at_call 67; ((with_reducible refine (hnum2 _ _ (HB2.out _ (HV.out.more (more_wd w _ _)))).mono ?_); rintro x w1 ⟨v3, rfl, hb3, y3, q3, rfl⟩; have HB3 := Lib.hid (keep_trans HB2.out hb3); clear hb3; obtain ⟨aa3, cc3, rfl, -, -, -⟩ := HB3.out w HV.out))
              | (go_at_call 159; ((with_reducible refine (hck _).mono ?_); rintro e w1 ⟨rfl, x1, n1, rfl⟩)))
          refine wp_region_tree (fun (s : Value × Value × Array Value) => wd w [_, _, _, _, _, #[.cells s.2.2 99], #[.cells #[s.1, s.2.1] 118], _] _) ((_, _, _)) [0, 1] (.one 2 (.one 3 (.one 4 .done))) [true, true] (wd_drew _ _ _) rfl (by kernel_rfl) (by kernel_rfl) (fun _ _ d _ _ h => by cases d <;> exact h) ?_
          apply Exists.intro
          refine ⟨?_, ?_⟩
          · intro E
            simp only [sel_t, sel_f, sel_n]
            repeat (go_big_quiet_step ((fail)))
            exact wpQuiet_nil rfl
          refine louds_one [false, false, true] rfl ?_
          simp only [sel_t, sel_f, sel_n]
          go_wp2
          refine ⟨⟨(_, _, _), rfl⟩, ?_⟩
          refine louds_one [false, false, false, true] rfl ?_
          simp only [sel_t, sel_f, sel_n]
          go_wp2
          refine ⟨⟨(_, _, _), rfl⟩, ?_⟩
          refine louds_one [false, false, false, false, true] rfl ?_
          simp only [sel_t, sel_f, sel_n]
          go_wp2
          refine ⟨⟨(_, _, _), rfl⟩, ?_⟩
          refine louds_done ?_
          go_wp2
          all_goals refine bodyPost_ret (v := .tuple #[.agg #[.slice aa3 l3.length cc3, .int .i64 0], .agg #[.int .i64 d, .int .i64 t, .bool false, .string ⟨#[]⟩, .bool true, .string ⟨#[]⟩], .int .i64 0]) (by simp [results, Try.results164, go_sem]) rfl (rrecgot _ _ HX.out rfl HB3.out)
        · have HX := Lib.hid (recend_form HG1.out hE (.inr (by rw [hC]; exact hc0)))
          have hne : (C == 0) = false := by rw [beq_eq_false_iff_ne]; exact hc0
          subst hE
          clear HG1 hC
          refine calls_wd ?_
          go_enter Try.func164, Try.ntmps164
          go_wp2_with (first
              | (go_at_call 68; ((with_reducible refine (hfix _ (HV.out.more (more_wd w _ _))).mono ?_); rintro x w1 ⟨v1, rfl, hb1, y1, q1, rfl⟩; have HB1 := Lib.hid (hb1); clear hb1; obtain ⟨aa1, cc1, rfl, -, -, -⟩ := HB1.out w HV.out))
              | (go_at_call 67; ((with_reducible refine (hnum1 _ _ (HB1.out _ (HV.out.more (more_wd w _ _)))).mono ?_); rintro x w1 ⟨v2, rfl, hb2, y2, q2, rfl⟩; have HB2 := Lib.hid (keep_trans HB1.out hb2); clear hb2; obtain ⟨aa2, cc2, rfl, -, -, -⟩ := HB2.out w HV.out))
              | (go_at_call 67; ((with_reducible refine (hnum2 _ _ (HB2.out _ (HV.out.more (more_wd w _ _)))).mono ?_); rintro x w1 ⟨v3, rfl, hb3, y3, q3, rfl⟩; have HB3 := Lib.hid (keep_trans HB2.out hb3); clear hb3; obtain ⟨aa3, cc3, rfl, -, -, -⟩ := HB3.out w HV.out))
              | (go_at_call 159; ((with_reducible refine (hck _).mono ?_); rintro e w1 ⟨rfl, x1, n1, rfl⟩)))
          all_goals refine bodyPost_ret (v := .tuple #[.agg #[.slice aa3 l3.length cc3, .int .i64 0], .agg #[.int .i64 0, .int .i64 0, .bool false, .string ⟨#[]⟩, .bool false, .string ⟨#[]⟩], .int .i64 4]) (by simp [results, Try.results164, go_sem]) rfl (rrecgot _ _ HX.out rfl HB3.out)
    · have HX := Lib.hid (recend_err HG1.out hE)
      have hne : (e3 == 0) = false := by rw [beq_eq_false_iff_ne]; exact hE
      clear HG1 hck
      refine calls_wd ?_
      go_enter Try.func164, Try.ntmps164
      go_wp2_with (first
          | (go_at_call 68; ((with_reducible refine (hfix _ (HV.out.more (more_wd w _ _))).mono ?_); rintro x w1 ⟨v1, rfl, hb1, y1, q1, rfl⟩; have HB1 := Lib.hid (hb1); clear hb1; obtain ⟨aa1, cc1, rfl, -, -, -⟩ := HB1.out w HV.out))
          | (go_at_call 67; ((with_reducible refine (hnum1 _ _ (HB1.out _ (HV.out.more (more_wd w _ _)))).mono ?_); rintro x w1 ⟨v2, rfl, hb2, y2, q2, rfl⟩; have HB2 := Lib.hid (keep_trans HB1.out hb2); clear hb2; obtain ⟨aa2, cc2, rfl, -, -, -⟩ := HB2.out w HV.out))
          | (go_at_call 67; ((with_reducible refine (hnum2 _ _ (HB2.out _ (HV.out.more (more_wd w _ _)))).mono ?_); rintro x w1 ⟨v3, rfl, hb3, y3, q3, rfl⟩; have HB3 := Lib.hid (keep_trans HB2.out hb3); clear hb3; obtain ⟨aa3, cc3, rfl, -, -, -⟩ := HB3.out w HV.out))
          | (go_at_call 159; ((with_reducible refine (hck _).mono ?_); rintro e w1 ⟨rfl, x1, n1, rfl⟩)))
      refine wp_region_tree (fun (s : Value × Value × Array Value) => wd w [_, _, _, _, #[.cells s.2.2 99], #[.cells #[s.1, s.2.1] 118], _] _) ((_, _, _)) [0, 1, 2, 3] (.one 4 (.one 5 (.one 6 .done))) [true, true, true, true] (wd_drew _ _ _) rfl (by kernel_rfl) (by kernel_rfl) (fun _ _ d _ _ h => by cases d <;> exact h) ?_
      apply Exists.intro
      refine ⟨?_, ?_⟩
      · intro E
        simp only [sel_t, sel_f, sel_n]
        repeat (go_big_quiet_step ((fail)))
        exact wpQuiet_nil rfl
      refine louds_one [false, false, false, false, true] rfl ?_
      simp only [sel_t, sel_f, sel_n]
      go_wp2
      refine ⟨⟨(_, _, _), rfl⟩, ?_⟩
      refine louds_one [false, false, false, false, false, true] rfl ?_
      simp only [sel_t, sel_f, sel_n]
      go_wp2
      refine ⟨⟨(_, _, _), rfl⟩, ?_⟩
      refine louds_one [false, false, false, false, false, false, true] rfl ?_
      simp only [sel_t, sel_f, sel_n]
      go_wp2
      refine ⟨⟨(_, _, _), rfl⟩, ?_⟩
      refine louds_done ?_
      go_wp2
      all_goals refine bodyPost_ret (v := .tuple #[.agg #[.slice aa3 l3.length cc3, .int .i64 e3], .agg #[.int .i64 0, .int .i64 0, .bool false, .string ⟨#[]⟩, .bool false, .string ⟨#[]⟩], .int .i64 e3]) (by simp [results, Try.results164, go_sem]) rfl (rrecgot _ _ HX.out rfl HB3.out)
  · -- keyed 0 dead 0
    have e1' : n % 2 = 0 := by omega
    have e2' : n / 2 % 2 = 0 := by omega
    rw [e1'] at a1
    rw [e2'] at a2
    clear e1' e2'
    have HG1 := Lib.hid (HG.out (l3, e3, []) _ (by rw [if_neg h1]) rfl)
    rw [if_neg h2] at HG1
    clear HG
    simp only [h1, h2, decide_true, decide_false] at HG1
    clear h1 h2
    have htx2 := fun (v1 : Value) (W : World) (h : RB W v1 l3) => rtxt_any v1 l3 e3 512 (by decide) W h
    generalize txt l3 e3 512 = T at htx2 HG1
    obtain ⟨j1, j2, j3⟩ := T
    dsimp only at htx2 HG1
    have hck := fun W => rrcheck_x d t false false [] j3 W
    simp only [show str [] = ⟨#[]⟩ from rfl] at hck
    by_cases hE : j2 = 0
    · by_cases h4 : 3 < (n : Int)
      · have HX := Lib.hid (recend_form HG1.out hE (.inl (by omega)))
        subst hE
        clear HG1 hck
        refine calls_wd ?_
        go_enter Try.func164, Try.ntmps164
        go_wp2_with (first
            | (go_at_call 68; ((with_reducible refine (hfix _ (HV.out.more (more_wd w _ _))).mono ?_); rintro x w1 ⟨v1, rfl, hb1, y1, q1, rfl⟩; have HB1 := Lib.hid (hb1); clear hb1; obtain ⟨aa1, cc1, rfl, -, -, -⟩ := HB1.out w HV.out))
            | (go_at_call 67; ((with_reducible refine (hnum1 _ _ (HB1.out _ (HV.out.more (more_wd w _ _)))).mono ?_); rintro x w1 ⟨v2, rfl, hb2, y2, q2, rfl⟩; have HB2 := Lib.hid (keep_trans HB1.out hb2); clear hb2; obtain ⟨aa2, cc2, rfl, -, -, -⟩ := HB2.out w HV.out))
            | (go_at_call 67; ((with_reducible refine (hnum2 _ _ (HB2.out _ (HV.out.more (more_wd w _ _)))).mono ?_); rintro x w1 ⟨v3, rfl, hb3, y3, q3, rfl⟩; have HB3 := Lib.hid (keep_trans HB2.out hb3); clear hb3; obtain ⟨aa3, cc3, rfl, -, -, -⟩ := HB3.out w HV.out))
            | (go_at_call 72; ((with_reducible refine (htx2 _ _ (HB3.out _ (HV.out.more (more_wd w _ _)))).mono ?_); rintro x w1 ⟨v5, rfl, hb5, y5, q5, rfl⟩; have HB5 := Lib.hid (keep_trans HB3.out hb5); clear hb5; obtain ⟨aa5, cc5, rfl, -, -, -⟩ := HB5.out w HV.out))
            | (go_at_call 159; ((with_reducible refine (hck _).mono ?_); rintro e w1 ⟨rfl, x1, n1, rfl⟩)))
        all_goals refine bodyPost_ret (v := .tuple #[.agg #[.slice aa5 j1.length cc5, .int .i64 0], .agg #[.int .i64 0, .int .i64 0, .bool false, .string ⟨#[]⟩, .bool false, .string ⟨#[]⟩], .int .i64 4]) (by simp [results, Try.results164, go_sem]) rfl (rrecgot _ _ HX.out rfl HB5.out)
      · have hd4 : decide (3 < (n : Int)) = false := by simpa using h4
        generalize hC : recCheck ⟨d, t, false, [], false, j3⟩ = C at hck
        by_cases hc0 : C = 0
        · have HX := Lib.hid (recend_ok HG1.out hE (by omega) (hC.trans hc0))
          subst hE hc0
          clear HG1 hC
          refine calls_wd ?_
          go_enter Try.func164, Try.ntmps164
          go_wp2_with (first
              | (go_at_call 68; ((with_reducible refine (hfix _ (HV.out.more (more_wd w _ _))).mono ?_); rintro x w1 ⟨v1, rfl, hb1, y1, q1, rfl⟩; have HB1 := Lib.hid (hb1); clear hb1; obtain ⟨aa1, cc1, rfl, -, -, -⟩ := HB1.out w HV.out))
              | (go_at_call 67; ((with_reducible refine (hnum1 _ _ (HB1.out _ (HV.out.more (more_wd w _ _)))).mono ?_); rintro x w1 ⟨v2, rfl, hb2, y2, q2, rfl⟩; have HB2 := Lib.hid (keep_trans HB1.out hb2); clear hb2; obtain ⟨aa2, cc2, rfl, -, -, -⟩ := HB2.out w HV.out))
              | (go_at_call 67; ((with_reducible refine (hnum2 _ _ (HB2.out _ (HV.out.more (more_wd w _ _)))).mono ?_); rintro x w1 ⟨v3, rfl, hb3, y3, q3, rfl⟩; have HB3 := Lib.hid (keep_trans HB2.out hb3); clear hb3; obtain ⟨aa3, cc3, rfl, -, -, -⟩ := HB3.out w HV.out))
              | (go_at_call 72; ((with_reducible refine (htx2 _ _ (HB3.out _ (HV.out.more (more_wd w _ _)))).mono ?_); rintro x w1 ⟨v5, rfl, hb5, y5, q5, rfl⟩; have HB5 := Lib.hid (keep_trans HB3.out hb5); clear hb5; obtain ⟨aa5, cc5, rfl, -, -, -⟩ := HB5.out w HV.out))
              | (go_at_call 159; ((with_reducible refine (hck _).mono ?_); rintro e w1 ⟨rfl, x1, n1, rfl⟩)))
          refine wp_region_tree (fun (s : Value × Value × Array Value) => wd w [_, _, _, _, _, _, #[.cells s.2.2 99], #[.cells #[s.1, s.2.1] 118], _] _) ((_, _, _)) [0, 1] (.one 2 (.one 3 (.one 4 .done))) [true, true] (wd_drew _ _ _) rfl (by kernel_rfl) (by kernel_rfl) (fun _ _ d _ _ h => by cases d <;> exact h) ?_
          apply Exists.intro
          refine ⟨?_, ?_⟩
          · intro E
            simp only [sel_t, sel_f, sel_n]
            repeat (go_big_quiet_step ((fail)))
            exact wpQuiet_nil rfl
          refine louds_one [false, false, true] rfl ?_
          simp only [sel_t, sel_f, sel_n]
          go_wp2
          refine ⟨⟨(_, _, _), rfl⟩, ?_⟩
          refine louds_one [false, false, false, true] rfl ?_
          simp only [sel_t, sel_f, sel_n]
          go_wp2
          refine ⟨⟨(_, _, _), rfl⟩, ?_⟩
          refine louds_one [false, false, false, false, true] rfl ?_
          simp only [sel_t, sel_f, sel_n]
          go_wp2
          refine ⟨⟨(_, _, _), rfl⟩, ?_⟩
          refine louds_done ?_
          go_wp2
          all_goals refine bodyPost_ret (v := .tuple #[.agg #[.slice aa5 j1.length cc5, .int .i64 0], .agg #[.int .i64 d, .int .i64 t, .bool false, .string ⟨#[]⟩, .bool false, .string (str j3)], .int .i64 0]) (by simp [results, Try.results164, go_sem]) rfl (rrecgot _ _ HX.out rfl HB5.out)
        · have HX := Lib.hid (recend_form HG1.out hE (.inr (by rw [hC]; exact hc0)))
          have hne : (C == 0) = false := by rw [beq_eq_false_iff_ne]; exact hc0
          subst hE
          clear HG1 hC
          refine calls_wd ?_
          go_enter Try.func164, Try.ntmps164
          go_wp2_with (first
              | (go_at_call 68; ((with_reducible refine (hfix _ (HV.out.more (more_wd w _ _))).mono ?_); rintro x w1 ⟨v1, rfl, hb1, y1, q1, rfl⟩; have HB1 := Lib.hid (hb1); clear hb1; obtain ⟨aa1, cc1, rfl, -, -, -⟩ := HB1.out w HV.out))
              | (go_at_call 67; ((with_reducible refine (hnum1 _ _ (HB1.out _ (HV.out.more (more_wd w _ _)))).mono ?_); rintro x w1 ⟨v2, rfl, hb2, y2, q2, rfl⟩; have HB2 := Lib.hid (keep_trans HB1.out hb2); clear hb2; obtain ⟨aa2, cc2, rfl, -, -, -⟩ := HB2.out w HV.out))
              | (go_at_call 67; ((with_reducible refine (hnum2 _ _ (HB2.out _ (HV.out.more (more_wd w _ _)))).mono ?_); rintro x w1 ⟨v3, rfl, hb3, y3, q3, rfl⟩; have HB3 := Lib.hid (keep_trans HB2.out hb3); clear hb3; obtain ⟨aa3, cc3, rfl, -, -, -⟩ := HB3.out w HV.out))
              | (go_at_call 72; ((with_reducible refine (htx2 _ _ (HB3.out _ (HV.out.more (more_wd w _ _)))).mono ?_); rintro x w1 ⟨v5, rfl, hb5, y5, q5, rfl⟩; have HB5 := Lib.hid (keep_trans HB3.out hb5); clear hb5; obtain ⟨aa5, cc5, rfl, -, -, -⟩ := HB5.out w HV.out))
              | (go_at_call 159; ((with_reducible refine (hck _).mono ?_); rintro e w1 ⟨rfl, x1, n1, rfl⟩)))
          all_goals refine bodyPost_ret (v := .tuple #[.agg #[.slice aa5 j1.length cc5, .int .i64 0], .agg #[.int .i64 0, .int .i64 0, .bool false, .string ⟨#[]⟩, .bool false, .string ⟨#[]⟩], .int .i64 4]) (by simp [results, Try.results164, go_sem]) rfl (rrecgot _ _ HX.out rfl HB5.out)
    · have HX := Lib.hid (recend_err HG1.out hE)
      have hne : (j2 == 0) = false := by rw [beq_eq_false_iff_ne]; exact hE
      clear HG1 hck
      refine calls_wd ?_
      go_enter Try.func164, Try.ntmps164
      go_wp2_with (first
          | (go_at_call 68; ((with_reducible refine (hfix _ (HV.out.more (more_wd w _ _))).mono ?_); rintro x w1 ⟨v1, rfl, hb1, y1, q1, rfl⟩; have HB1 := Lib.hid (hb1); clear hb1; obtain ⟨aa1, cc1, rfl, -, -, -⟩ := HB1.out w HV.out))
          | (go_at_call 67; ((with_reducible refine (hnum1 _ _ (HB1.out _ (HV.out.more (more_wd w _ _)))).mono ?_); rintro x w1 ⟨v2, rfl, hb2, y2, q2, rfl⟩; have HB2 := Lib.hid (keep_trans HB1.out hb2); clear hb2; obtain ⟨aa2, cc2, rfl, -, -, -⟩ := HB2.out w HV.out))
          | (go_at_call 67; ((with_reducible refine (hnum2 _ _ (HB2.out _ (HV.out.more (more_wd w _ _)))).mono ?_); rintro x w1 ⟨v3, rfl, hb3, y3, q3, rfl⟩; have HB3 := Lib.hid (keep_trans HB2.out hb3); clear hb3; obtain ⟨aa3, cc3, rfl, -, -, -⟩ := HB3.out w HV.out))
          | (go_at_call 72; ((with_reducible refine (htx2 _ _ (HB3.out _ (HV.out.more (more_wd w _ _)))).mono ?_); rintro x w1 ⟨v5, rfl, hb5, y5, q5, rfl⟩; have HB5 := Lib.hid (keep_trans HB3.out hb5); clear hb5; obtain ⟨aa5, cc5, rfl, -, -, -⟩ := HB5.out w HV.out))
          | (go_at_call 159; ((with_reducible refine (hck _).mono ?_); rintro e w1 ⟨rfl, x1, n1, rfl⟩)))
      refine wp_region_tree (fun (s : Value × Value × Array Value) => wd w [_, _, _, _, _, #[.cells s.2.2 99], #[.cells #[s.1, s.2.1] 118], _] _) ((_, _, _)) [0, 1, 2, 3] (.one 4 (.one 5 (.one 6 .done))) [true, true, true, true] (wd_drew _ _ _) rfl (by kernel_rfl) (by kernel_rfl) (fun _ _ d _ _ h => by cases d <;> exact h) ?_
      apply Exists.intro
      refine ⟨?_, ?_⟩
      · intro E
        simp only [sel_t, sel_f, sel_n]
        repeat (go_big_quiet_step ((fail)))
        exact wpQuiet_nil rfl
      refine louds_one [false, false, false, false, true] rfl ?_
      simp only [sel_t, sel_f, sel_n]
      go_wp2
      refine ⟨⟨(_, _, _), rfl⟩, ?_⟩
      refine louds_one [false, false, false, false, false, true] rfl ?_
      simp only [sel_t, sel_f, sel_n]
      go_wp2
      refine ⟨⟨(_, _, _), rfl⟩, ?_⟩
      refine louds_one [false, false, false, false, false, false, true] rfl ?_
      simp only [sel_t, sel_f, sel_n]
      go_wp2
      refine ⟨⟨(_, _, _), rfl⟩, ?_⟩
      refine louds_done ?_
      go_wp2
      all_goals refine bodyPost_ret (v := .tuple #[.agg #[.slice aa5 j1.length cc5, .int .i64 j2], .agg #[.int .i64 0, .int .i64 0, .bool false, .string ⟨#[]⟩, .bool false, .string ⟨#[]⟩], .int .i64 j2]) (by simp [results, Try.results164, go_sem]) rfl (rrecgot _ _ HX.out rfl HB5.out)
end Go.Proofs.Ytejokhgabcldhaa
