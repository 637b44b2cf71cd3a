/- ViewLooks: the walk. -/
import Derived.Test.YtlanghikmccmbaaLD
namespace Go.Proofs.Ytlanghikmccmbaa
open Go.ChangeShapes Go.WideShapes Go.ChangeAt Go.RowKit
set_option linter.unusedVariables false
set_option linter.unusedSimpArgs false
set_option maxRecDepth 100000 in
set_option maxHeartbeats 8000000 in
theorem looks_any (v u : Vw) (a a2 : Option Addr) (cap cap2 : Nat) (ak av : List UInt8) (ao at_ : Int) (w : World) (hr : VRowsAt w a v.rows) (hr2 : VRowsAt w a2 u.rows) (hf : ∀ x ∈ v.rows, x.key.length ≤ maxLen ∧ x.value.length ≤ maxLen) (hf2 : ∀ x ∈ u.rows, x.key.length ≤ maxLen ∧ x.value.length ≤ maxLen) (hl : v.rows.length ≤ maxLen) (hl2 : u.rows.length ≤ maxLen) (hak : ak.length ≤ maxLen) :
    Calls Try.prog 3 #[.agg #[.int .i64 v.next, .slice a v.rows.length cap], .agg #[.int .i64 u.next, .slice a2 u.rows.length cap2], .agg #[.string (str ak), .string (str av), .int .i64 ao, .int .i64 at_]] w fun e w' => e = .returned (.bool true) ∧ More w w' := by
  have HAW := Lib.hid awake36
  have HLI := Lib.hid (fun W hm => vlight_any v a cap W (hr.more (w' := W) hm) hf hl)
  have HLU := Lib.hid (fun W hm => vlight_any u a2 cap2 W (hr2.more (w' := W) hm) hf2 hl2)
  have HRC := Lib.hid (fun W hm => rvcheck_any v a cap W (hr.more (w' := W) hm) hf hl)
  have HOK := Lib.hid (fun (hv : viewCheck v = 0) h60 h60' hk => looks_ok v u (viewCheck_ok hv).2.2.2.2 a a2 cap cap2 ak ao at_ w hr hr2 (fun x hx => (hf x hx).1) h60 h60' hk)
  have HR := Lib.hid hr
  have HR2 := Lib.hid hr2
  clear hr hr2 hf hf2
  obtain ⟨nx, N, hnx, hN⟩ : ∃ nx N, v.next = nx ∧ v.rows.length = N := ⟨_, _, rfl, rfl⟩
  obtain ⟨nu, M, hnu, hM⟩ : ∃ nu M, u.next = nu ∧ u.rows.length = M := ⟨_, _, rfl, rfl⟩
  rw [hnx, hN] at HLI HRC HOK
  rw [hN] at hl ⊢
  rw [hnx]
  rw [hnu, hM] at HLU HOK ⊢
  rw [hM] at hl2
  obtain ⟨vc, hvc⟩ : ∃ vc, viewCheck v = vc := ⟨_, rfl⟩
  rw [hvc] at HRC HOK
  clear hnx hN hnu hM hvc
  have s1 := str_size ak
  unfold maxLen at hak
  by_cases hk : (ak.length : Int) ≤ 200
  · by_cases hvc : vc = 0
    · have HOK2 := Lib.hid (fun h60 h60' => HOK.out hvc h60 h60' (by omega))
      subst hvc
      clear HOK
      refine calls_wd ?_
      go_enter Try.func3, Try.ntmps3
      go_wp2_with (first
        | (go_at_call 7; ((with_reducible refine (HLI.out _ (more_wd _ _ _)).mono ?_); rintro e w2 hbr; obtain ⟨bl, rfl, ⟨x9, n9, rfl⟩, hyes⟩ := hbr.out; clear hbr; cases bl <;> (try have h60 := (hyes rfl).1)))
        | (go_at_call 7; ((with_reducible refine (HLU.out _ (more_wd _ _ _)).mono ?_); rintro e w2 hbr; obtain ⟨bl, rfl, ⟨x8, n8, rfl⟩, hyet⟩ := hbr.out; clear hbr; cases bl <;> (try have h61 := (hyet rfl).1)))
        | (go_at_call 8; ((with_reducible refine (HRC.out _ (more_wd _ _ _)).mono ?_); rintro e w2 ⟨rfl, x7, n7, rfl⟩))
        | (go_at_call 9; ((with_reducible refine (HAW.out _).mono ?_); rintro e w1 ⟨rfl, x1, n1, rfl⟩)))
      · go_ret
        exact ⟨rfl, more_wd _ _ _⟩
      · go_ret
        exact ⟨rfl, more_wd _ _ _⟩
      obtain ⟨S1, S2, hLO⟩ := HOK2.out h60 h61
      have HLO := Lib.hid hLO
      clear hLO hyes hyet HLI HLU HRC HOK2
      obtain ⟨K1, hK1⟩ : ∃ K1, S1.length = K1 := ⟨_, rfl⟩
      obtain ⟨K2, hK2⟩ : ∃ K2, S2.length = K2 := ⟨_, rfl⟩
      obtain ⟨sb, hsb⟩ : ∃ sb, decide (v = u) = sb := ⟨_, rfl⟩
      obtain ⟨⟨⟨gk, gv, go, gt⟩, gb⟩, hG⟩ : ∃ G, getR v.rows ak = G := ⟨_, rfl⟩
      rw [hK1, hK2, hsb, hG] at HLO
      clear hK1 hK2 hsb hG
      have HGE := Lib.hid HLO.out.get
      have HRG := Lib.hid HLO.out.rget
      have HOW := Lib.hid HLO.out.own
      dsimp only at HGE HRG
      go_wp2_with (first
        | (go_at_call 10; ((with_reducible refine (HOW.out _ (more_wd _ _ _)).mono ?_); rintro e w2 hq; obtain ⟨ao1, co1, rfl, hro, ⟨x2, n2, rfl⟩, hc1, hc2⟩ := hq.out; rw [wd_plus] at hro; have HRO := Lib.hid hro; have HCA := Lib.hid (And.intro hc1 hc2); clear hro hq hc1 hc2))
        | (go_at_call 11; ((with_reducible refine (HGE.out _ _ _ (HRO.out.more (more_cons (more_same _ _ _ _)))).mono ?_); rintro e w2 ⟨rfl, x5, n5, rfl⟩))
        | (go_at_call 12; ((with_reducible refine (HRG.out _ (more_wd _ _ _)).mono ?_); rintro e w2 ⟨rfl, x4, n4, rfl⟩)))
      generalize hqr : sz w.heap.size [x4.size, 1, x5.size, 1, x2.size, x7.size, x8.size, x9.size, 1, 1, 1] = qr
      generalize hqg : sz w.heap.size [x5.size, 1, x2.size, x7.size, x8.size, x9.size, 1, 1, 1] = qg
      generalize hqx : sz w.heap.size [x2.size, x7.size, x8.size, x9.size, 1, 1, 1] = qx
      generalize hqa : sz w.heap.size [1, 1] = qa
      generalize hqw : sz w.heap.size [1] = qw
      generalize hqv : sz w.heap.size [] = qv
      obtain ⟨W9, hW9⟩ : ∃ W9, wd w [#[Obj.cells #[Value.string (str gk), Value.string (str gv), Value.int IntKind.i64 go, Value.int IntKind.i64 gt] 26], x4, #[Obj.cells #[Value.string (str gk), Value.string (str gv), Value.int IntKind.i64 go, Value.int IntKind.i64 gt] 34], x5, #[Obj.cells #[Value.int IntKind.i64 nx, Value.slice ao1 N co1] 32], x2, x7, x8, x9, #[Obj.cells #[Value.string (str ak), Value.string (str av), Value.int IntKind.i64 ao, Value.int IntKind.i64 at_] 26], #[Obj.cells #[Value.int IntKind.i64 nu, Value.slice a2 M cap2] 24], #[Obj.cells #[Value.int IntKind.i64 nx, Value.slice a N cap] 24]] n4 = W9 := ⟨_, rfl⟩
      have HM9 : Hid (More w W9) := Lib.hid (hW9 ▸ more_wd _ _ _)
      have hr0 : W9.cell? ⟨qr, 0, none⟩ = some (.string (str gk)) := by rw [← hW9, ← hqr]; exact (mid_cell' w _ _ _ n4 0 []).trans rfl
      have hr1 : W9.cell? ⟨qr, 1, none⟩ = some (.string (str gv)) := by rw [← hW9, ← hqr]; exact (mid_cell' w _ _ _ n4 1 []).trans rfl
      have hr2 : W9.cell? ⟨qr, 2, none⟩ = some (.int .i64 go) := by rw [← hW9, ← hqr]; exact (mid_cell' w _ _ _ n4 2 []).trans rfl
      have hr3 : W9.cell? ⟨qr, 3, none⟩ = some (.int .i64 gt) := by rw [← hW9, ← hqr]; exact (mid_cell' w _ _ _ n4 3 []).trans rfl
      have hlr := cell_lt' hr0
      have hg0 : W9.cell? ⟨qg, 0, none⟩ = some (.string (str gk)) := by rw [← hW9, ← hqg]; exact (mid_cell' w _ _ _ n4 0 [_, _]).trans rfl
      have hg1 : W9.cell? ⟨qg, 1, none⟩ = some (.string (str gv)) := by rw [← hW9, ← hqg]; exact (mid_cell' w _ _ _ n4 1 [_, _]).trans rfl
      have hg2 : W9.cell? ⟨qg, 2, none⟩ = some (.int .i64 go) := by rw [← hW9, ← hqg]; exact (mid_cell' w _ _ _ n4 2 [_, _]).trans rfl
      have hg3 : W9.cell? ⟨qg, 3, none⟩ = some (.int .i64 gt) := by rw [← hW9, ← hqg]; exact (mid_cell' w _ _ _ n4 3 [_, _]).trans rfl
      have hlg := cell_lt' hg0
      have hx0 : W9.cell? ⟨qx, 0, none⟩ = some (.int .i64 nx) := by rw [← hW9, ← hqx]; exact (mid_cell' w _ _ _ n4 0 [_, _, _, _]).trans rfl
      have hx1 : W9.cell? ⟨qx, 1, none⟩ = some (.slice ao1 N co1) := by rw [← hW9, ← hqx]; exact (mid_cell' w _ _ _ n4 1 [_, _, _, _]).trans rfl
      have hlx := cell_lt' hx0
      have ha0 : W9.cell? ⟨qa, 0, none⟩ = some (.string (str ak)) := by rw [← hW9, ← hqa]; exact (mid_cell' w _ _ _ n4 0 [_, _, _, _, _, _, _, _, _]).trans rfl
      have ha1 : W9.cell? ⟨qa, 1, none⟩ = some (.string (str av)) := by rw [← hW9, ← hqa]; exact (mid_cell' w _ _ _ n4 1 [_, _, _, _, _, _, _, _, _]).trans rfl
      have ha2 : W9.cell? ⟨qa, 2, none⟩ = some (.int .i64 ao) := by rw [← hW9, ← hqa]; exact (mid_cell' w _ _ _ n4 2 [_, _, _, _, _, _, _, _, _]).trans rfl
      have ha3 : W9.cell? ⟨qa, 3, none⟩ = some (.int .i64 at_) := by rw [← hW9, ← hqa]; exact (mid_cell' w _ _ _ n4 3 [_, _, _, _, _, _, _, _, _]).trans rfl
      have hla := cell_lt' ha0
      have hw0 : W9.cell? ⟨qw, 0, none⟩ = some (.int .i64 nu) := by rw [← hW9, ← hqw]; exact (mid_cell' w _ _ _ n4 0 [_, _, _, _, _, _, _, _, _, _]).trans rfl
      have hw1 : W9.cell? ⟨qw, 1, none⟩ = some (.slice a2 M cap2) := by rw [← hW9, ← hqw]; exact (mid_cell' w _ _ _ n4 1 [_, _, _, _, _, _, _, _, _, _]).trans rfl
      have hlw := cell_lt' hw0
      have hv0 : W9.cell? ⟨qv, 0, none⟩ = some (.int .i64 nx) := by rw [← hW9, ← hqv]; exact (mid_cell' w _ _ _ n4 0 [_, _, _, _, _, _, _, _, _, _, _]).trans rfl
      have hv1 : W9.cell? ⟨qv, 1, none⟩ = some (.slice a N cap) := by rw [← hW9, ← hqv]; exact (mid_cell' w _ _ _ n4 1 [_, _, _, _, _, _, _, _, _, _, _]).trans rfl
      have hlv := cell_lt' hv0
      have HO9 : Hid (VRowsAt W9 ao1 v.rows) := Lib.hid (by rw [← hW9]; exact HRO.out.more (by repeat (first | exact more_same _ _ _ _ | apply more_cons)))
      have QE := fun W => vrow_eqs gk gv go gt W
      rw [hW9, ← wd_nil W9]
      clear hW9 hqr hqg hqx hqa hqw hqv HRO HOW HGE HRG
      refine wp_region_chain (fun (m : Ext) => wd W9 [m.e] m.n) (⟨#[], W9.drawn + 1⟩) [([0, 1, 2, 3, 4, 5, 6, 7, 8, 9, 10, 11, 12, 13, 16, 17, 18, 19, 20], 14), ([], 15), ([], 21), ([], 22), ([23, 24, 25, 26, 27, 30, 31, 32], 28), ([], 29), ([], 33), ([], 34), ([35, 36, 37, 38, 41, 42], 39), ([], 40), ([], 43), ([44, 45, 46], 47)] [48, 49] [([true, true, true, true, true, true, true, true, true, true, true, true, true, true, false, false, true, true, true, true, true], [false, false, false, false, false, false, false, false, false, false, false, false, false, false, true]), ([], [false, false, false, false, false, false, false, false, false, false, false, false, false, false, false, true]), ([], [false, false, false, false, false, false, false, false, false, false, false, false, false, false, false, false, false, false, false, false, false, true]), ([], [false, false, false, false, false, false, false, false, false, false, false, false, false, false, false, false, false, false, false, false, false, false, true]), ([false, false, false, false, false, false, false, false, false, false, false, false, false, false, false, false, false, false, false, false, false, false, false, true, true, true, true, true, false, false, true, true, true], [false, false, false, false, false, false, false, false, false, false, false, false, false, false, false, false, false, false, false, false, false, false, false, false, false, false, false, false, true]), ([], [false, false, false, false, false, false, false, false, false, false, false, false, false, false, false, false, false, false, false, false, false, false, false, false, false, false, false, false, false, true]), ([], [false, false, false, false, false, false, false, false, false, false, false, false, false, false, false, false, false, false, false, false, false, false, false, false, false, false, false, false, false, false, false, false, false, true]), ([], [false, false, false, false, false, false, false, false, false, false, false, false, false, false, false, false, false, false, false, false, false, false, false, false, false, false, false, false, false, false, false, false, false, false, true]), ([false, false, false, false, false, false, false, false, false, false, false, false, false, false, false, false, false, false, false, false, false, false, false, false, false, false, false, false, false, false, false, false, false, false, false, true, true, true, true, false, false, true, true], [false, false, false, false, false, false, false, false, false, false, false, false, false, false, false, false, false, false, false, false, false, false, false, false, false, false, false, false, false, false, false, false, false, false, false, false, false, false, false, true]), ([], [false, false, false, false, false, false, false, false, false, false, false, false, false, false, false, false, false, false, false, false, false, false, false, false, false, false, false, false, false, false, false, false, false, false, false, false, false, false, false, false, true]), ([], [false, false, false, false, false, false, false, false, false, false, false, false, false, false, false, false, false, false, false, false, false, false, false, false, false, false, false, false, false, false, false, false, false, false, false, false, false, false, false, false, false, false, false, true]), ([false, false, false, false, false, false, false, false, false, false, false, false, false, false, false, false, false, false, false, false, false, false, false, false, false, false, false, false, false, false, false, false, false, false, false, false, false, false, false, false, false, false, false, false, true, true, true], [false, false, false, false, false, false, false, false, false, false, false, false, false, false, false, false, false, false, false, false, false, false, false, false, false, false, false, false, false, false, false, false, false, false, false, false, false, false, false, false, false, false, false, false, false, false, false, true])] [false, false, false, false, false, false, false, false, false, false, false, false, false, false, false, false, false, false, false, false, false, false, false, false, false, false, false, false, false, false, false, false, false, false, false, false, false, false, false, false, false, false, false, false, false, false, false, false, true, true] rfl rfl ⟨rfl, rfl, rfl, rfl, rfl, rfl, rfl, rfl, rfl, rfl, rfl, rfl, rfl, rfl, rfl, rfl, rfl, rfl, rfl, rfl, rfl, rfl, rfl, rfl, trivial⟩ (by kernel_rfl) (by kernel_rfl) (fun _ _ d _ _ h => by cases d <;> exact h) ?_
      refine ⟨rfl, ?_⟩
      apply Exists.intro
      refine ⟨?_, ?_⟩
      · intro E
        simp only [sel_t, sel_f, sel_n]
        repeat (go_big_quiet_step ((fail)))
        exact wpQuiet_nil rfl
      simp only [sel_t, sel_f, sel_n]
      go_wp2_with (first | (go_at_call 15; ((with_reducible refine (HLO.out.scan _ _ _ (HO9.out.more (more_wd _ _ _)) HCA.out.1 HCA.out.2).mono ?_); rintro e w2 hq; obtain ⟨b1, d1, rfl, hb1, y1, m1, rfl⟩ := hq.out; rw [wd_plus] at hb1; have HB1 := Lib.hid hb1; clear hb1 hq)))
      refine ⟨cls_any' _ _ _, ?_⟩
      refine ⟨rfl, ?_⟩
      apply Exists.intro
      refine ⟨?_, ?_⟩
      · intro E
        simp only [sel_t, sel_f, sel_n]
        repeat (go_big_quiet_step ((fail)))
        exact wpQuiet_nil rfl
      try simp only [sel_t, sel_f, sel_n]
      go_wp2_with (first | (go_at_call 14; ((with_reducible refine (HLO.out.as1 _ _ _ (HB1.out.more (more_same _ _ _ _))).mono ?_); rintro e w2 hq; obtain ⟨b2, d2, rfl, hb2, y2, m2, rfl⟩ := hq.out; rw [wd_plus] at hb2; have HB2 := Lib.hid hb2; clear hb2 hq)))
      refine ⟨cls_any' _ _ _, ?_⟩
      refine ⟨rfl, ?_⟩
      apply Exists.intro
      refine ⟨?_, ?_⟩
      · intro E
        simp only [sel_t, sel_f, sel_n]
        repeat (go_big_quiet_step ((fail)))
        exact wpQuiet_nil rfl
      try simp only [sel_t, sel_f, sel_n]
      go_wp2_with (first | (go_at_call 16; ((with_reducible refine (HLO.out.rscan _ (HM9.out.trans (more_wd _ _ _))).mono ?_); rintro e w2 hq; obtain ⟨b3, d3, rfl, hb, y3, m3, rfl⟩ := hq.out; rw [wd_plus] at hb; have HB3 := Lib.hid hb; clear hb hq)))
      refine ⟨cls_any' _ _ _, ?_⟩
      refine ⟨rfl, ?_⟩
      apply Exists.intro
      refine ⟨?_, ?_⟩
      · intro E
        simp only [sel_t, sel_f, sel_n]
        repeat (go_big_quiet_step ((fail)))
        exact wpQuiet_nil rfl
      try simp only [sel_t, sel_f, sel_n]
      go_wp2_with (first | (go_at_call 13; ((with_reducible refine (HLO.out.same1 _ _ _ _ _ (HB2.out.more (by repeat (first | exact more_same _ _ _ _ | apply more_cons))) (HB3.out.more (by repeat (first | exact more_same _ _ _ _ | apply more_cons)))).mono ?_); rintro e w2 ⟨rfl, y4, m4, rfl⟩)))
      refine ⟨cls_any' _ _ _, ?_⟩
      refine ⟨rfl, ?_⟩
      apply Exists.intro
      refine ⟨?_, ?_⟩
      · intro E
        simp only [sel_t, sel_f, sel_n]
        repeat (go_big_quiet_step ((fail)))
        exact wpQuiet_nil rfl
      try simp only [sel_t, sel_f, sel_n]
      go_wp2_with (first | (go_at_call 17; ((with_reducible refine (HLO.out.since _ _ _ (HO9.out.more (more_wd _ _ _))).mono ?_); rintro e w2 hq; obtain ⟨b5, d5, rfl, hb, y5, m5, rfl⟩ := hq.out; rw [wd_plus] at hb; have HB5 := Lib.hid hb; clear hb hq)))
      refine ⟨cls_any' _ _ _, ?_⟩
      refine ⟨rfl, ?_⟩
      apply Exists.intro
      refine ⟨?_, ?_⟩
      · intro E
        simp only [sel_t, sel_f, sel_n]
        repeat (go_big_quiet_step ((fail)))
        exact wpQuiet_nil rfl
      try simp only [sel_t, sel_f, sel_n]
      go_wp2_with (first | (go_at_call 14; ((with_reducible refine (HLO.out.as2 _ _ _ (HB5.out.more (by repeat (first | exact more_same _ _ _ _ | apply more_cons)))).mono ?_); rintro e w2 hq; obtain ⟨b6, d6, rfl, hb, y6, m6, rfl⟩ := hq.out; rw [wd_plus] at hb; have HB6 := Lib.hid hb; clear hb hq)))
      refine ⟨cls_any' _ _ _, ?_⟩
      refine ⟨rfl, ?_⟩
      apply Exists.intro
      refine ⟨?_, ?_⟩
      · intro E
        simp only [sel_t, sel_f, sel_n]
        repeat (go_big_quiet_step ((fail)))
        exact wpQuiet_nil rfl
      try simp only [sel_t, sel_f, sel_n]
      go_wp2_with (first | (go_at_call 18; ((with_reducible refine (HLO.out.rsince _ (HM9.out.trans (more_wd _ _ _))).mono ?_); rintro e w2 hq; obtain ⟨b7, d7, rfl, hb, y7, m7, rfl⟩ := hq.out; rw [wd_plus] at hb; have HB7 := Lib.hid hb; clear hb hq)))
      refine ⟨cls_any' _ _ _, ?_⟩
      refine ⟨rfl, ?_⟩
      apply Exists.intro
      refine ⟨?_, ?_⟩
      · intro E
        simp only [sel_t, sel_f, sel_n]
        repeat (go_big_quiet_step ((fail)))
        exact wpQuiet_nil rfl
      try simp only [sel_t, sel_f, sel_n]
      go_wp2_with (first | (go_at_call 13; ((with_reducible refine (HLO.out.same2 _ _ _ _ _ (HB6.out.more (by repeat (first | exact more_same _ _ _ _ | apply more_cons))) (HB7.out.more (by repeat (first | exact more_same _ _ _ _ | apply more_cons)))).mono ?_); rintro e w2 ⟨rfl, y8, m8, rfl⟩)))
      refine ⟨cls_any' _ _ _, ?_⟩
      refine ⟨rfl, ?_⟩
      apply Exists.intro
      refine ⟨?_, ?_⟩
      · intro E
        simp only [sel_t, sel_f, sel_n]
        repeat (go_big_quiet_step ((fail)))
        exact wpQuiet_nil rfl
      try simp only [sel_t, sel_f, sel_n]
      go_wp2_with (first | (go_at_call 10; ((with_reducible refine (HLO.out.own2 _ (HM9.out.trans (more_wd _ _ _))).mono ?_); rintro e w2 hq; obtain ⟨b9, d9, rfl, hb, ⟨y9, m9, rfl⟩, -⟩ := hq.out; rw [wd_plus] at hb; have HB9 := Lib.hid hb; clear hb hq)))
      refine ⟨cls_any' _ _ _, ?_⟩
      refine ⟨rfl, ?_⟩
      apply Exists.intro
      refine ⟨?_, ?_⟩
      · intro E
        simp only [sel_t, sel_f, sel_n]
        repeat (go_big_quiet_step ((fail)))
        exact wpQuiet_nil rfl
      try simp only [sel_t, sel_f, sel_n]
      go_wp2_with (first | (go_at_call 19; ((with_reducible refine (HLO.out.vsame _ _ _ _ _ (HO9.out.more (more_wd _ _ _)) (HB9.out.more (by repeat (first | exact more_same _ _ _ _ | apply more_cons)))).mono ?_); rintro e w2 ⟨rfl, y10, m10, rfl⟩)))
      refine ⟨cls_any' _ _ _, ?_⟩
      refine ⟨rfl, ?_⟩
      apply Exists.intro
      refine ⟨?_, ?_⟩
      · intro E
        simp only [sel_t, sel_f, sel_n]
        repeat (go_big_quiet_step ((fail)))
        exact wpQuiet_nil rfl
      try simp only [sel_t, sel_f, sel_n]
      go_wp2_with (first | (go_at_call 20; ((with_reducible refine (HLO.out.rsame _ (HM9.out.trans (more_wd _ _ _))).mono ?_); rintro e w2 ⟨rfl, y11, m11, rfl⟩)))
      refine ⟨cls_any' _ _ _, ?_⟩
      refine ⟨rfl, ?_⟩
      apply Exists.intro
      refine ⟨?_, ?_⟩
      · intro E
        simp only [sel_t, sel_f, sel_n]
        repeat (go_big_quiet_step ((fail)))
        exact wpQuiet_nil rfl
      try simp only [sel_t, sel_f, sel_n]
      go_wp2_with (first | (go_at_call 9; ((with_reducible refine (HAW.out _).mono ?_); rintro e w2 ⟨rfl, y12, m12, rfl⟩)))
      refine ⟨cls_any' _ _ _, ?_⟩
      refine ⟨rfl, ?_⟩
      apply Exists.intro
      refine ⟨?_, ?_⟩
      · intro E
        simp only [sel_t, sel_f, sel_n]
        repeat (go_big_quiet_step ((fail)))
        exact wpQuiet_nil rfl
      try simp only [sel_t, sel_f, sel_n]
      go_wp2
      go_ret
      exact ⟨rfl, HM9.out.trans (more_wd _ _ _)⟩
    · have hvb : (vc == 0) = false := by rw [beq_eq_false_iff_ne]; exact hvc
      have hvb2 : (vc != 0) = true := by rw [bne_iff_ne]; exact hvc
      clear HOK
      refine calls_wd ?_
      go_enter Try.func3, Try.ntmps3
      go_wp2_with (first
        | (go_at_call 7; ((with_reducible refine (HLI.out _ (more_wd _ _ _)).mono ?_); rintro e w2 hbr; obtain ⟨bl, rfl, ⟨x9, n9, rfl⟩, hyes⟩ := hbr.out; clear hbr; cases bl))
        | (go_at_call 7; ((with_reducible refine (HLU.out _ (more_wd _ _ _)).mono ?_); rintro e w2 hbr; obtain ⟨bl, rfl, ⟨x8, n8, rfl⟩, hyet⟩ := hbr.out; clear hbr; cases bl))
        | (go_at_call 8; ((with_reducible refine (HRC.out _ (more_wd _ _ _)).mono ?_); rintro e w1 ⟨rfl, x1, n1, rfl⟩))
        | (go_at_call 9; ((with_reducible refine (HAW.out _).mono ?_); rintro e w1 ⟨rfl, x1, n1, rfl⟩)))
      all_goals (go_ret; exact ⟨rfl, more_wd _ _ _⟩)
  · clear HOK
    refine calls_wd ?_
    go_enter Try.func3, Try.ntmps3
    go_wp2_with (first
      | (go_at_call 7; ((with_reducible refine (HLI.out _ (more_wd _ _ _)).mono ?_); rintro e w2 hbr; obtain ⟨bl, rfl, ⟨x9, n9, rfl⟩, hyes⟩ := hbr.out; clear hbr; cases bl))
      | (go_at_call 7; ((with_reducible refine (HLU.out _ (more_wd _ _ _)).mono ?_); rintro e w2 hbr; obtain ⟨bl, rfl, ⟨x8, n8, rfl⟩, hyet⟩ := hbr.out; clear hbr; cases bl))
      | (go_at_call 9; ((with_reducible refine (HAW.out _).mono ?_); rintro e w1 ⟨rfl, x1, n1, rfl⟩)))
    all_goals (go_ret; exact ⟨rfl, more_wd _ _ _⟩)
end Go.Proofs.Ytlanghikmccmbaa
