/- script: GetStep of the program. -/
import Derived.Test.YtejokhgabcldhaaMV
namespace Go.Proofs.Ytejokhgabcldhaa
open Go.ChangeShapes Go.WideShapes Go.ChangeAt Go.RowKit
set_option linter.unusedVariables false
set_option linter.unusedSimpArgs false

set_option maxRecDepth 100000 in
set_option maxHeartbeats 3200000 in
theorem getstp_0 (b : UInt8) (r : List UInt8) (v : Value) (w : World) (hv : RB w v (b :: r)) (hl : r.length ≤ 1099511627776) (hk : b.toNat = 0) :
    Calls Try.prog 19 #[v] w fun x w' => StpRet w w' x (stpGet (b :: r)) := by
  have HV := Lib.hid hv
  have HSD : Hid (stpDec b r = (⟨b.toNat, (reqGet r).1, (stpBlank b.toNat).n, (stpBlank b.toNat).done, (stpBlank b.toNat).fate⟩ : Stp)) := Lib.hid (by unfold stpDec; rw [if_pos hk]; try rfl)
  have HFIT : Hid (StpFit (⟨b.toNat, (reqGet r).1, (stpBlank b.toNat).n, (stpBlank b.toNat).done, (stpBlank b.toNat).fate⟩ : Stp)) := Lib.hid (HSD.out ▸ stpDec_fit b r)
  have HG : Hid (stpGet (b :: r) = if stpPut (⟨b.toNat, (reqGet r).1, (stpBlank b.toNat).n, (stpBlank b.toNat).done, (stpBlank b.toNat).fate⟩ : Stp) = (b :: r, 0) then ((⟨b.toNat, (reqGet r).1, (stpBlank b.toNat).n, (stpBlank b.toNat).done, (stpBlank b.toNat).fate⟩ : Stp), 0) else (stpBlank 0, 4)) := Lib.hid (by rw [stpGet_cons, HSD.out])
  have HPUT := Lib.hid (fun a c f d W h => pst_any (⟨b.toNat, (reqGet r).1, (stpBlank b.toNat).n, (stpBlank b.toNat).done, (stpBlank b.toNat).fate⟩ : Stp) a c f d W HFIT.out h)
  obtain ⟨P, hP⟩ : ∃ P, stpPut (⟨b.toNat, (reqGet r).1, (stpBlank b.toNat).n, (stpBlank b.toNat).done, (stpBlank b.toNat).fate⟩ : Stp) = P := ⟨_, rfl⟩
  rw [hP] at HG HPUT
  clear hP
  obtain ⟨pl, pe⟩ := P
  dsimp only at HPUT HG
  obtain ⟨av, cv, rfl, hcap, hm, hc⟩ := hv
  obtain ⟨p, off, rfl, hp, hcell⟩ := hc (by simp)
  have c0 : w.cell? ⟨p, off, none⟩ = some (.int .u8 b.toNat) := by have := hcell 0 (by simp); simpa [bc_get] using this
  have hb8 : b.toNat < 256 := b.toNat_lt
  obtain ⟨a2, cap2, hd, hd1, hd2, hd3⟩ := HV.out.drop 1 (by simp)
  have hd' : dropV (.slice (some ⟨p, off, none⟩) (b :: r).length cv) 1 = .slice a2 r.length cap2 := hd
  have hs := run_slice_from (P := Try.prog) 28 5 Try.underlying28 sz_u8 HV.out 1 (by decide) (by simp only [List.length_cons]; omega)
  rw [show (1 : Int).toNat = 1 from rfl, hd'] at hs
  have HD : Hid (∀ W0, RB W0 (.slice (some ⟨p, off, none⟩) (b :: r).length cv) (b :: r) → RB W0 (.slice a2 r.length cap2) r) := Lib.hid (fun W0 h => hd' ▸ (h.drop 1 (by simp) : RB W0 (dropV _ 1) r))
  have n1 : ((b.toNat : Int) == 1) = false := by rw [beq_eq_false_iff_ne]; omega
  have n2 : ((b.toNat : Int) == 2) = false := by rw [beq_eq_false_iff_ne]; omega
  have n3 : ((b.toNat : Int) == 3) = false := by rw [beq_eq_false_iff_ne]; omega
  have n4 : ((b.toNat : Int) == 4) = false := by rw [beq_eq_false_iff_ne]; omega
  have m0 : ((b.toNat : Int) == 0) = true := by rw [beq_iff_eq]; omega
  obtain ⟨N, hN⟩ : ∃ N, (b :: r).length = N := ⟨_, rfl⟩
  rw [hN] at HV HD hs hcap ⊢
  have hN1 : 1 ≤ N := by rw [← hN, List.length_cons]; omega
  have hN2 : N ≤ 1099511627777 := by rw [← hN, List.length_cons]; omega
  have hN0 : ((N : Int) == 0) = false := by rw [beq_eq_false_iff_ne]; omega
  clear hcell hc hd hd' hd3 hN hk
  have HFN := Lib.hid (fun W => (RB.nil W : RB W (.slice none ((⟨b.toNat, (reqGet r).1, (stpBlank b.toNat).n, (stpBlank b.toNat).done, (stpBlank b.toNat).fate⟩ : Stp)).fate.length 0) ((⟨b.toNat, (reqGet r).1, (stpBlank b.toNat).n, (stpBlank b.toNat).done, (stpBlank b.toNat).fate⟩ : Stp)).fate))
  by_cases hpe : pe = 0
  · subst hpe
    by_cases hpl : b :: r = pl
    · have HX : Hid (stpGet (b :: r) = ((⟨b.toNat, (reqGet r).1, (stpBlank b.toNat).n, (stpBlank b.toNat).done, (stpBlank b.toNat).fate⟩ : Stp), 0)) := Lib.hid (by rw [HG.out, if_pos (by rw [hpl])])
      have hdec : decide (b :: r = pl) = true := decide_eq_true hpl
      clear hpl
      refine calls_wd ?_
      go_enter Try.func19, Try.ntmps19
      go_wp2_with (first
        | (go_at_call 61; ((with_reducible refine (new_any _ r _ (HD.out _ (HV.out.more (more_wd _ _ _))) hl).mono ?_); rintro x w1 hnr; obtain ⟨v0, m0, rfl, hr0, rfl⟩ := hnr.wd; clear hnr; have HOS := Lib.hid (fun (s' : Stp) a' c' f' d' => ownRd (w := w) (c := m0.e) (L := [sbk s' a' c' f' d' 36, sbk (stpBlank 0) none 0 none 0 36]) (p := sz w.heap.size [m0.e.size, 1, 1]) (v0 := v0) (l := r) rfl hr0); clear hr0))
        | (go_at_call 62; ((with_reducible refine (getreq_any _ r _ (HD.out _ (HV.out.more (more_wd _ _ _))) hl).mono ?_); rintro x w2 hrr; obtain ⟨a9, c9, rfl, hra9, ⟨x9, n9, rfl⟩, hf9⟩ := hrr.out; have HF9 : Hid (From w.heap.size a9 (reqGet r).1.batch.recs) := Lib.hid (hf9.le (by rw [wd_size]; exact sz_ge _ _)); clear hf9; have HRP := Lib.hid (fun (s' : Stp) a' c' f' d' n' => recs_s3 (n' := n') (s' := s') (a' := a') (c' := c') (f' := f') (d' := d') (s := stpBlank b.toNat) (a := none) (c := 0) (f := none) (d := 0) (T := 36) (w := w) (p0 := x9) (p1 := rbk v0 0) (p2 := m0.e) (L := [sbk (stpBlank 0) none 0 none 0 36]) (n := n9) hra9); have HRA9 := Lib.hid hra9; clear hra9 hrr))
        | (go_at_call 12; ((with_reducible refine (HPUT.out a9 c9 none 0 _ (⟨HRP.out _ _ _ _ _ _, HFN.out _⟩)).mono ?_); rintro e w2 ⟨u9, rfl, hm9⟩; obtain ⟨p9, rfl, hs9⟩ := hm9.wd; clear hm9; have HU := Lib.hid (RB.of_row (k := p9.n) hs9 _ rfl); clear hs9))
        | (go_at_call 57; ((with_reducible refine (equal_any _ u9 (b :: r) pl _ (HV.out.more (more_wd _ _ _)) HU.out).mono ?_); rintro e w1 ⟨rfl, rfl⟩)))
      refine bodyPost_ret (v := .tuple #[.agg (stp (⟨b.toNat, (reqGet r).1, (stpBlank b.toNat).n, (stpBlank b.toNat).done, (stpBlank b.toNat).fate⟩ : Stp) a9 c9 none 0), .int .i64 0]) ?_ rfl ?_
      · simp [results, Try.results19, go_sem]
      · refine ⟨a9, c9, none, 0, ?_, ?_, more_wd _ _ _, by rw [HX.out]; exact HF9.out, by rw [HX.out]; exact From.nil _ _⟩
        · rw [HX.out]
        · rw [HX.out]; exact ⟨recs_s5 (n := 0) (recs_s4 (n := 0) (RowAt.more (HRA9.out) (more_cons (more_same _ _ _ _)))), RB.nil _⟩
    · have HX : Hid (stpGet (b :: r) = (stpBlank 0, 4)) := Lib.hid (by rw [HG.out, if_neg (by intro h; exact hpl (congrArg Prod.fst h).symm)])
      have hdec : decide (b :: r = pl) = false := decide_eq_false hpl
      clear hpl
      refine calls_wd ?_
      go_enter Try.func19, Try.ntmps19
      go_wp2_with (first
        | (go_at_call 61; ((with_reducible refine (new_any _ r _ (HD.out _ (HV.out.more (more_wd _ _ _))) hl).mono ?_); rintro x w1 hnr; obtain ⟨v0, m0, rfl, hr0, rfl⟩ := hnr.wd; clear hnr; have HOS := Lib.hid (fun (s' : Stp) a' c' f' d' => ownRd (w := w) (c := m0.e) (L := [sbk s' a' c' f' d' 36, sbk (stpBlank 0) none 0 none 0 36]) (p := sz w.heap.size [m0.e.size, 1, 1]) (v0 := v0) (l := r) rfl hr0); clear hr0))
        | (go_at_call 62; ((with_reducible refine (getreq_any _ r _ (HD.out _ (HV.out.more (more_wd _ _ _))) hl).mono ?_); rintro x w2 hrr; obtain ⟨a9, c9, rfl, hra9, ⟨x9, n9, rfl⟩, hf9⟩ := hrr.out; have HF9 : Hid (From w.heap.size a9 (reqGet r).1.batch.recs) := Lib.hid (hf9.le (by rw [wd_size]; exact sz_ge _ _)); clear hf9; have HRP := Lib.hid (fun (s' : Stp) a' c' f' d' n' => recs_s3 (n' := n') (s' := s') (a' := a') (c' := c') (f' := f') (d' := d') (s := stpBlank b.toNat) (a := none) (c := 0) (f := none) (d := 0) (T := 36) (w := w) (p0 := x9) (p1 := rbk v0 0) (p2 := m0.e) (L := [sbk (stpBlank 0) none 0 none 0 36]) (n := n9) hra9); have HRA9 := Lib.hid hra9; clear hra9 hrr))
        | (go_at_call 12; ((with_reducible refine (HPUT.out a9 c9 none 0 _ (⟨HRP.out _ _ _ _ _ _, HFN.out _⟩)).mono ?_); rintro e w2 ⟨u9, rfl, hm9⟩; obtain ⟨p9, rfl, hs9⟩ := hm9.wd; clear hm9; have HU := Lib.hid (RB.of_row (k := p9.n) hs9 _ rfl); clear hs9))
        | (go_at_call 57; ((with_reducible refine (equal_any _ u9 (b :: r) pl _ (HV.out.more (more_wd _ _ _)) HU.out).mono ?_); rintro e w1 ⟨rfl, rfl⟩)))
      refine bodyPost_ret (v := .tuple #[.agg (stp (stpBlank 0) none 0 none 0), .int .i64 4]) ?_ rfl ?_
      · simp [results, Try.results19, go_sem]
      · refine ⟨none, 0, none, 0, ?_, ?_, more_wd _ _ _, by rw [HX.out]; exact From.nil _ _, by rw [HX.out]; exact From.nil _ _⟩
        · rw [HX.out]
        · rw [HX.out]; exact blank_at _
  · have HX : Hid (stpGet (b :: r) = (stpBlank 0, 4)) := Lib.hid (by rw [HG.out, if_neg (by intro h; exact hpe (congrArg Prod.snd h))])
    have hne : (pe == 0) = false := by rw [beq_eq_false_iff_ne]; exact hpe
    refine calls_wd ?_
    go_enter Try.func19, Try.ntmps19
    go_wp2_with (first
        | (go_at_call 61; ((with_reducible refine (new_any _ r _ (HD.out _ (HV.out.more (more_wd _ _ _))) hl).mono ?_); rintro x w1 hnr; obtain ⟨v0, m0, rfl, hr0, rfl⟩ := hnr.wd; clear hnr; have HOS := Lib.hid (fun (s' : Stp) a' c' f' d' => ownRd (w := w) (c := m0.e) (L := [sbk s' a' c' f' d' 36, sbk (stpBlank 0) none 0 none 0 36]) (p := sz w.heap.size [m0.e.size, 1, 1]) (v0 := v0) (l := r) rfl hr0); clear hr0))
        | (go_at_call 62; ((with_reducible refine (getreq_any _ r _ (HD.out _ (HV.out.more (more_wd _ _ _))) hl).mono ?_); rintro x w2 hrr; obtain ⟨a9, c9, rfl, hra9, ⟨x9, n9, rfl⟩, hf9⟩ := hrr.out; have HF9 : Hid (From w.heap.size a9 (reqGet r).1.batch.recs) := Lib.hid (hf9.le (by rw [wd_size]; exact sz_ge _ _)); clear hf9; have HRP := Lib.hid (fun (s' : Stp) a' c' f' d' n' => recs_s3 (n' := n') (s' := s') (a' := a') (c' := c') (f' := f') (d' := d') (s := stpBlank b.toNat) (a := none) (c := 0) (f := none) (d := 0) (T := 36) (w := w) (p0 := x9) (p1 := rbk v0 0) (p2 := m0.e) (L := [sbk (stpBlank 0) none 0 none 0 36]) (n := n9) hra9); have HRA9 := Lib.hid hra9; clear hra9 hrr))
        | (go_at_call 12; ((with_reducible refine (HPUT.out a9 c9 none 0 _ (⟨HRP.out _ _ _ _ _ _, HFN.out _⟩)).mono ?_); rintro e w2 ⟨u9, rfl, hm9⟩; obtain ⟨p9, rfl, hs9⟩ := hm9.wd; clear hm9; have HU := Lib.hid (RB.of_row (k := p9.n) hs9 _ rfl); clear hs9))
        | (go_at_call 57; ((with_reducible refine (equal_any _ u9 (b :: r) pl _ (HV.out.more (more_wd _ _ _)) HU.out).mono ?_); rintro e w1 ⟨rfl, rfl⟩)))
    all_goals
      refine bodyPost_ret (v := .tuple #[.agg (stp (stpBlank 0) none 0 none 0), .int .i64 4]) ?_ rfl ?_
      · simp [results, Try.results19, go_sem]
      · refine ⟨none, 0, none, 0, ?_, ?_, more_wd _ _ _, by rw [HX.out]; exact From.nil _ _, by rw [HX.out]; exact From.nil _ _⟩
        · rw [HX.out]
        · rw [HX.out]; exact blank_at _
set_option maxRecDepth 100000 in
set_option maxHeartbeats 3200000 in
theorem getstp_1 (b : UInt8) (r : List UInt8) (v : Value) (w : World) (hv : RB w v (b :: r)) (hl : r.length ≤ 1099511627776) (hk : b.toNat = 1) :
    Calls Try.prog 19 #[v] w fun x w' => StpRet w w' x (stpGet (b :: r)) := by
  have HV := Lib.hid hv
  have HSD : Hid (stpDec b r = (⟨b.toNat, (stpBlank b.toNat).q, numV r 0, (stpBlank b.toNat).done, (stpBlank b.toNat).fate⟩ : Stp)) := Lib.hid (by unfold stpDec; rw [if_neg (by omega), if_pos (.inl hk)]; try rfl)
  have HFIT : Hid (StpFit (⟨b.toNat, (stpBlank b.toNat).q, numV r 0, (stpBlank b.toNat).done, (stpBlank b.toNat).fate⟩ : Stp)) := Lib.hid (HSD.out ▸ stpDec_fit b r)
  have HG : Hid (stpGet (b :: r) = if stpPut (⟨b.toNat, (stpBlank b.toNat).q, numV r 0, (stpBlank b.toNat).done, (stpBlank b.toNat).fate⟩ : Stp) = (b :: r, 0) then ((⟨b.toNat, (stpBlank b.toNat).q, numV r 0, (stpBlank b.toNat).done, (stpBlank b.toNat).fate⟩ : Stp), 0) else (stpBlank 0, 4)) := Lib.hid (by rw [stpGet_cons, HSD.out])
  have HPUT := Lib.hid (fun a c f d W h => pst_any (⟨b.toNat, (stpBlank b.toNat).q, numV r 0, (stpBlank b.toNat).done, (stpBlank b.toNat).fate⟩ : Stp) a c f d W HFIT.out h)
  obtain ⟨P, hP⟩ : ∃ P, stpPut (⟨b.toNat, (stpBlank b.toNat).q, numV r 0, (stpBlank b.toNat).done, (stpBlank b.toNat).fate⟩ : Stp) = P := ⟨_, rfl⟩
  rw [hP] at HG HPUT
  clear hP
  obtain ⟨pl, pe⟩ := P
  dsimp only at HPUT HG
  obtain ⟨av, cv, rfl, hcap, hm, hc⟩ := hv
  obtain ⟨p, off, rfl, hp, hcell⟩ := hc (by simp)
  have c0 : w.cell? ⟨p, off, none⟩ = some (.int .u8 b.toNat) := by have := hcell 0 (by simp); simpa [bc_get] using this
  have hb8 : b.toNat < 256 := b.toNat_lt
  obtain ⟨a2, cap2, hd, hd1, hd2, hd3⟩ := HV.out.drop 1 (by simp)
  have hd' : dropV (.slice (some ⟨p, off, none⟩) (b :: r).length cv) 1 = .slice a2 r.length cap2 := hd
  have hs := run_slice_from (P := Try.prog) 28 5 Try.underlying28 sz_u8 HV.out 1 (by decide) (by simp only [List.length_cons]; omega)
  rw [show (1 : Int).toNat = 1 from rfl, hd'] at hs
  have HD : Hid (∀ W0, RB W0 (.slice (some ⟨p, off, none⟩) (b :: r).length cv) (b :: r) → RB W0 (.slice a2 r.length cap2) r) := Lib.hid (fun W0 h => hd' ▸ (h.drop 1 (by simp) : RB W0 (dropV _ 1) r))
  have n0 : ((b.toNat : Int) == 0) = false := by rw [beq_eq_false_iff_ne]; omega
  have n2 : ((b.toNat : Int) == 2) = false := by rw [beq_eq_false_iff_ne]; omega
  have n3 : ((b.toNat : Int) == 3) = false := by rw [beq_eq_false_iff_ne]; omega
  have n4 : ((b.toNat : Int) == 4) = false := by rw [beq_eq_false_iff_ne]; omega
  have m1 : ((b.toNat : Int) == 1) = true := by rw [beq_iff_eq]; omega
  obtain ⟨N, hN⟩ : ∃ N, (b :: r).length = N := ⟨_, rfl⟩
  rw [hN] at HV HD hs hcap ⊢
  have hN1 : 1 ≤ N := by rw [← hN, List.length_cons]; omega
  have hN2 : N ≤ 1099511627777 := by rw [← hN, List.length_cons]; omega
  have hN0 : ((N : Int) == 0) = false := by rw [beq_eq_false_iff_ne]; omega
  clear hcell hc hd hd' hd3 hN hk
  have HAT0 := Lib.hid (fun W => (⟨RowAt.nil _, RB.nil _⟩ : StpAt W (⟨b.toNat, (stpBlank b.toNat).q, numV r 0, (stpBlank b.toNat).done, (stpBlank b.toNat).fate⟩ : Stp) none none 0))
  by_cases hpe : pe = 0
  · subst hpe
    by_cases hpl : b :: r = pl
    · have HX : Hid (stpGet (b :: r) = ((⟨b.toNat, (stpBlank b.toNat).q, numV r 0, (stpBlank b.toNat).done, (stpBlank b.toNat).fate⟩ : Stp), 0)) := Lib.hid (by rw [HG.out, if_pos (by rw [hpl])])
      have hdec : decide (b :: r = pl) = true := decide_eq_true hpl
      clear hpl
      refine calls_wd ?_
      go_enter Try.func19, Try.ntmps19
      go_wp2_with (first
        | (go_at_call 61; ((with_reducible refine (new_any _ r _ (HD.out _ (HV.out.more (more_wd _ _ _))) hl).mono ?_); rintro x w1 hnr; obtain ⟨v0, m0, rfl, hr0, rfl⟩ := hnr.wd; clear hnr; have HOS := Lib.hid (fun (s' : Stp) a' c' f' d' => ownRd (w := w) (c := m0.e) (L := [sbk s' a' c' f' d' 36, sbk (stpBlank 0) none 0 none 0 36]) (p := sz w.heap.size [m0.e.size, 1, 1]) (v0 := v0) (l := r) rfl hr0); clear hr0))
        | (go_at_call 63; ((with_reducible refine (num_any _ v0 r 0 _ ((HOS.out _ _ _ _ _).r0 _ _ _) ((HOS.out _ _ _ _ _).b0 _ _ _ _ _ (fun _ h => h))).mono ?_); rintro x w1 ⟨rfl, ht⟩; obtain ⟨v1, m1, hb1, rfl⟩ := took_own0 (L := [_, _, _]) rfl ht; have HB1 := Lib.hid hb1; clear ht hb1))
        | (go_at_call 12; ((with_reducible refine (HPUT.out none 0 none 0 _ (HAT0.out _)).mono ?_); rintro e w2 ⟨u9, rfl, hm9⟩; obtain ⟨p9, rfl, hs9⟩ := hm9.wd; clear hm9; have HU := Lib.hid (RB.of_row (k := p9.n) hs9 _ rfl); clear hs9))
        | (go_at_call 57; ((with_reducible refine (equal_any _ u9 (b :: r) pl _ (HV.out.more (more_wd _ _ _)) HU.out).mono ?_); rintro e w1 ⟨rfl, rfl⟩)))
      refine bodyPost_ret (v := .tuple #[.agg (stp (⟨b.toNat, (stpBlank b.toNat).q, numV r 0, (stpBlank b.toNat).done, (stpBlank b.toNat).fate⟩ : Stp) none 0 none 0), .int .i64 0]) ?_ rfl ?_
      · simp [results, Try.results19, go_sem]
      · refine ⟨none, 0, none, 0, ?_, ?_, more_wd _ _ _, by rw [HX.out]; exact From.nil _ _, by rw [HX.out]; exact From.nil _ _⟩
        · rw [HX.out]
        · rw [HX.out]; exact ⟨RowAt.nil _, RB.nil _⟩
    · have HX : Hid (stpGet (b :: r) = (stpBlank 0, 4)) := Lib.hid (by rw [HG.out, if_neg (by intro h; exact hpl (congrArg Prod.fst h).symm)])
      have hdec : decide (b :: r = pl) = false := decide_eq_false hpl
      clear hpl
      refine calls_wd ?_
      go_enter Try.func19, Try.ntmps19
      go_wp2_with (first
        | (go_at_call 61; ((with_reducible refine (new_any _ r _ (HD.out _ (HV.out.more (more_wd _ _ _))) hl).mono ?_); rintro x w1 hnr; obtain ⟨v0, m0, rfl, hr0, rfl⟩ := hnr.wd; clear hnr; have HOS := Lib.hid (fun (s' : Stp) a' c' f' d' => ownRd (w := w) (c := m0.e) (L := [sbk s' a' c' f' d' 36, sbk (stpBlank 0) none 0 none 0 36]) (p := sz w.heap.size [m0.e.size, 1, 1]) (v0 := v0) (l := r) rfl hr0); clear hr0))
        | (go_at_call 63; ((with_reducible refine (num_any _ v0 r 0 _ ((HOS.out _ _ _ _ _).r0 _ _ _) ((HOS.out _ _ _ _ _).b0 _ _ _ _ _ (fun _ h => h))).mono ?_); rintro x w1 ⟨rfl, ht⟩; obtain ⟨v1, m1, hb1, rfl⟩ := took_own0 (L := [_, _, _]) rfl ht; have HB1 := Lib.hid hb1; clear ht hb1))
        | (go_at_call 12; ((with_reducible refine (HPUT.out none 0 none 0 _ (HAT0.out _)).mono ?_); rintro e w2 ⟨u9, rfl, hm9⟩; obtain ⟨p9, rfl, hs9⟩ := hm9.wd; clear hm9; have HU := Lib.hid (RB.of_row (k := p9.n) hs9 _ rfl); clear hs9))
        | (go_at_call 57; ((with_reducible refine (equal_any _ u9 (b :: r) pl _ (HV.out.more (more_wd _ _ _)) HU.out).mono ?_); rintro e w1 ⟨rfl, rfl⟩)))
      refine bodyPost_ret (v := .tuple #[.agg (stp (stpBlank 0) none 0 none 0), .int .i64 4]) ?_ rfl ?_
      · simp [results, Try.results19, go_sem]
      · refine ⟨none, 0, none, 0, ?_, ?_, more_wd _ _ _, by rw [HX.out]; exact From.nil _ _, by rw [HX.out]; exact From.nil _ _⟩
        · rw [HX.out]
        · rw [HX.out]; exact blank_at _
  · have HX : Hid (stpGet (b :: r) = (stpBlank 0, 4)) := Lib.hid (by rw [HG.out, if_neg (by intro h; exact hpe (congrArg Prod.snd h))])
    have hne : (pe == 0) = false := by rw [beq_eq_false_iff_ne]; exact hpe
    refine calls_wd ?_
    go_enter Try.func19, Try.ntmps19
    go_wp2_with (first
        | (go_at_call 61; ((with_reducible refine (new_any _ r _ (HD.out _ (HV.out.more (more_wd _ _ _))) hl).mono ?_); rintro x w1 hnr; obtain ⟨v0, m0, rfl, hr0, rfl⟩ := hnr.wd; clear hnr; have HOS := Lib.hid (fun (s' : Stp) a' c' f' d' => ownRd (w := w) (c := m0.e) (L := [sbk s' a' c' f' d' 36, sbk (stpBlank 0) none 0 none 0 36]) (p := sz w.heap.size [m0.e.size, 1, 1]) (v0 := v0) (l := r) rfl hr0); clear hr0))
        | (go_at_call 63; ((with_reducible refine (num_any _ v0 r 0 _ ((HOS.out _ _ _ _ _).r0 _ _ _) ((HOS.out _ _ _ _ _).b0 _ _ _ _ _ (fun _ h => h))).mono ?_); rintro x w1 ⟨rfl, ht⟩; obtain ⟨v1, m1, hb1, rfl⟩ := took_own0 (L := [_, _, _]) rfl ht; have HB1 := Lib.hid hb1; clear ht hb1))
        | (go_at_call 12; ((with_reducible refine (HPUT.out none 0 none 0 _ (HAT0.out _)).mono ?_); rintro e w2 ⟨u9, rfl, hm9⟩; obtain ⟨p9, rfl, hs9⟩ := hm9.wd; clear hm9; have HU := Lib.hid (RB.of_row (k := p9.n) hs9 _ rfl); clear hs9))
        | (go_at_call 57; ((with_reducible refine (equal_any _ u9 (b :: r) pl _ (HV.out.more (more_wd _ _ _)) HU.out).mono ?_); rintro e w1 ⟨rfl, rfl⟩)))
    all_goals
      refine bodyPost_ret (v := .tuple #[.agg (stp (stpBlank 0) none 0 none 0), .int .i64 4]) ?_ rfl ?_
      · simp [results, Try.results19, go_sem]
      · refine ⟨none, 0, none, 0, ?_, ?_, more_wd _ _ _, by rw [HX.out]; exact From.nil _ _, by rw [HX.out]; exact From.nil _ _⟩
        · rw [HX.out]
        · rw [HX.out]; exact blank_at _
set_option maxRecDepth 100000 in
set_option maxHeartbeats 3200000 in
theorem getstp_2 (b : UInt8) (r : List UInt8) (v : Value) (w : World) (hv : RB w v (b :: r)) (hl : r.length ≤ 1099511627776) (hk : b.toNat = 2) :
    Calls Try.prog 19 #[v] w fun x w' => StpRet w w' x (stpGet (b :: r)) := by
  have HV := Lib.hid hv
  have HSD : Hid (stpDec b r = (⟨b.toNat, (stpBlank b.toNat).q, numV r 0, (stpBlank b.toNat).done, (stpBlank b.toNat).fate⟩ : Stp)) := Lib.hid (by unfold stpDec; rw [if_neg (by omega), if_pos (.inr hk)]; try rfl)
  have HFIT : Hid (StpFit (⟨b.toNat, (stpBlank b.toNat).q, numV r 0, (stpBlank b.toNat).done, (stpBlank b.toNat).fate⟩ : Stp)) := Lib.hid (HSD.out ▸ stpDec_fit b r)
  have HG : Hid (stpGet (b :: r) = if stpPut (⟨b.toNat, (stpBlank b.toNat).q, numV r 0, (stpBlank b.toNat).done, (stpBlank b.toNat).fate⟩ : Stp) = (b :: r, 0) then ((⟨b.toNat, (stpBlank b.toNat).q, numV r 0, (stpBlank b.toNat).done, (stpBlank b.toNat).fate⟩ : Stp), 0) else (stpBlank 0, 4)) := Lib.hid (by rw [stpGet_cons, HSD.out])
  have HPUT := Lib.hid (fun a c f d W h => pst_any (⟨b.toNat, (stpBlank b.toNat).q, numV r 0, (stpBlank b.toNat).done, (stpBlank b.toNat).fate⟩ : Stp) a c f d W HFIT.out h)
  obtain ⟨P, hP⟩ : ∃ P, stpPut (⟨b.toNat, (stpBlank b.toNat).q, numV r 0, (stpBlank b.toNat).done, (stpBlank b.toNat).fate⟩ : Stp) = P := ⟨_, rfl⟩
  rw [hP] at HG HPUT
  clear hP
  obtain ⟨pl, pe⟩ := P
  dsimp only at HPUT HG
  obtain ⟨av, cv, rfl, hcap, hm, hc⟩ := hv
  obtain ⟨p, off, rfl, hp, hcell⟩ := hc (by simp)
  have c0 : w.cell? ⟨p, off, none⟩ = some (.int .u8 b.toNat) := by have := hcell 0 (by simp); simpa [bc_get] using this
  have hb8 : b.toNat < 256 := b.toNat_lt
  obtain ⟨a2, cap2, hd, hd1, hd2, hd3⟩ := HV.out.drop 1 (by simp)
  have hd' : dropV (.slice (some ⟨p, off, none⟩) (b :: r).length cv) 1 = .slice a2 r.length cap2 := hd
  have hs := run_slice_from (P := Try.prog) 28 5 Try.underlying28 sz_u8 HV.out 1 (by decide) (by simp only [List.length_cons]; omega)
  rw [show (1 : Int).toNat = 1 from rfl, hd'] at hs
  have HD : Hid (∀ W0, RB W0 (.slice (some ⟨p, off, none⟩) (b :: r).length cv) (b :: r) → RB W0 (.slice a2 r.length cap2) r) := Lib.hid (fun W0 h => hd' ▸ (h.drop 1 (by simp) : RB W0 (dropV _ 1) r))
  have n0 : ((b.toNat : Int) == 0) = false := by rw [beq_eq_false_iff_ne]; omega
  have n1 : ((b.toNat : Int) == 1) = false := by rw [beq_eq_false_iff_ne]; omega
  have n3 : ((b.toNat : Int) == 3) = false := by rw [beq_eq_false_iff_ne]; omega
  have n4 : ((b.toNat : Int) == 4) = false := by rw [beq_eq_false_iff_ne]; omega
  have m2 : ((b.toNat : Int) == 2) = true := by rw [beq_iff_eq]; omega
  obtain ⟨N, hN⟩ : ∃ N, (b :: r).length = N := ⟨_, rfl⟩
  rw [hN] at HV HD hs hcap ⊢
  have hN1 : 1 ≤ N := by rw [← hN, List.length_cons]; omega
  have hN2 : N ≤ 1099511627777 := by rw [← hN, List.length_cons]; omega
  have hN0 : ((N : Int) == 0) = false := by rw [beq_eq_false_iff_ne]; omega
  clear hcell hc hd hd' hd3 hN hk
  have HAT0 := Lib.hid (fun W => (⟨RowAt.nil _, RB.nil _⟩ : StpAt W (⟨b.toNat, (stpBlank b.toNat).q, numV r 0, (stpBlank b.toNat).done, (stpBlank b.toNat).fate⟩ : Stp) none none 0))
  by_cases hpe : pe = 0
  · subst hpe
    by_cases hpl : b :: r = pl
    · have HX : Hid (stpGet (b :: r) = ((⟨b.toNat, (stpBlank b.toNat).q, numV r 0, (stpBlank b.toNat).done, (stpBlank b.toNat).fate⟩ : Stp), 0)) := Lib.hid (by rw [HG.out, if_pos (by rw [hpl])])
      have hdec : decide (b :: r = pl) = true := decide_eq_true hpl
      clear hpl
      refine calls_wd ?_
      go_enter Try.func19, Try.ntmps19
      go_wp2_with (first
        | (go_at_call 61; ((with_reducible refine (new_any _ r _ (HD.out _ (HV.out.more (more_wd _ _ _))) hl).mono ?_); rintro x w1 hnr; obtain ⟨v0, m0, rfl, hr0, rfl⟩ := hnr.wd; clear hnr; have HOS := Lib.hid (fun (s' : Stp) a' c' f' d' => ownRd (w := w) (c := m0.e) (L := [sbk s' a' c' f' d' 36, sbk (stpBlank 0) none 0 none 0 36]) (p := sz w.heap.size [m0.e.size, 1, 1]) (v0 := v0) (l := r) rfl hr0); clear hr0))
        | (go_at_call 63; ((with_reducible refine (num_any _ v0 r 0 _ ((HOS.out _ _ _ _ _).r0 _ _ _) ((HOS.out _ _ _ _ _).b0 _ _ _ _ _ (fun _ h => h))).mono ?_); rintro x w1 ⟨rfl, ht⟩; obtain ⟨v1, m1, hb1, rfl⟩ := took_own0 (L := [_, _, _]) rfl ht; have HB1 := Lib.hid hb1; clear ht hb1))
        | (go_at_call 12; ((with_reducible refine (HPUT.out none 0 none 0 _ (HAT0.out _)).mono ?_); rintro e w2 ⟨u9, rfl, hm9⟩; obtain ⟨p9, rfl, hs9⟩ := hm9.wd; clear hm9; have HU := Lib.hid (RB.of_row (k := p9.n) hs9 _ rfl); clear hs9))
        | (go_at_call 57; ((with_reducible refine (equal_any _ u9 (b :: r) pl _ (HV.out.more (more_wd _ _ _)) HU.out).mono ?_); rintro e w1 ⟨rfl, rfl⟩)))
      refine bodyPost_ret (v := .tuple #[.agg (stp (⟨b.toNat, (stpBlank b.toNat).q, numV r 0, (stpBlank b.toNat).done, (stpBlank b.toNat).fate⟩ : Stp) none 0 none 0), .int .i64 0]) ?_ rfl ?_
      · simp [results, Try.results19, go_sem]
      · refine ⟨none, 0, none, 0, ?_, ?_, more_wd _ _ _, by rw [HX.out]; exact From.nil _ _, by rw [HX.out]; exact From.nil _ _⟩
        · rw [HX.out]
        · rw [HX.out]; exact ⟨RowAt.nil _, RB.nil _⟩
    · have HX : Hid (stpGet (b :: r) = (stpBlank 0, 4)) := Lib.hid (by rw [HG.out, if_neg (by intro h; exact hpl (congrArg Prod.fst h).symm)])
      have hdec : decide (b :: r = pl) = false := decide_eq_false hpl
      clear hpl
      refine calls_wd ?_
      go_enter Try.func19, Try.ntmps19
      go_wp2_with (first
        | (go_at_call 61; ((with_reducible refine (new_any _ r _ (HD.out _ (HV.out.more (more_wd _ _ _))) hl).mono ?_); rintro x w1 hnr; obtain ⟨v0, m0, rfl, hr0, rfl⟩ := hnr.wd; clear hnr; have HOS := Lib.hid (fun (s' : Stp) a' c' f' d' => ownRd (w := w) (c := m0.e) (L := [sbk s' a' c' f' d' 36, sbk (stpBlank 0) none 0 none 0 36]) (p := sz w.heap.size [m0.e.size, 1, 1]) (v0 := v0) (l := r) rfl hr0); clear hr0))
        | (go_at_call 63; ((with_reducible refine (num_any _ v0 r 0 _ ((HOS.out _ _ _ _ _).r0 _ _ _) ((HOS.out _ _ _ _ _).b0 _ _ _ _ _ (fun _ h => h))).mono ?_); rintro x w1 ⟨rfl, ht⟩; obtain ⟨v1, m1, hb1, rfl⟩ := took_own0 (L := [_, _, _]) rfl ht; have HB1 := Lib.hid hb1; clear ht hb1))
        | (go_at_call 12; ((with_reducible refine (HPUT.out none 0 none 0 _ (HAT0.out _)).mono ?_); rintro e w2 ⟨u9, rfl, hm9⟩; obtain ⟨p9, rfl, hs9⟩ := hm9.wd; clear hm9; have HU := Lib.hid (RB.of_row (k := p9.n) hs9 _ rfl); clear hs9))
        | (go_at_call 57; ((with_reducible refine (equal_any _ u9 (b :: r) pl _ (HV.out.more (more_wd _ _ _)) HU.out).mono ?_); rintro e w1 ⟨rfl, rfl⟩)))
      refine bodyPost_ret (v := .tuple #[.agg (stp (stpBlank 0) none 0 none 0), .int .i64 4]) ?_ rfl ?_
      · simp [results, Try.results19, go_sem]
      · refine ⟨none, 0, none, 0, ?_, ?_, more_wd _ _ _, by rw [HX.out]; exact From.nil _ _, by rw [HX.out]; exact From.nil _ _⟩
        · rw [HX.out]
        · rw [HX.out]; exact blank_at _
  · have HX : Hid (stpGet (b :: r) = (stpBlank 0, 4)) := Lib.hid (by rw [HG.out, if_neg (by intro h; exact hpe (congrArg Prod.snd h))])
    have hne : (pe == 0) = false := by rw [beq_eq_false_iff_ne]; exact hpe
    refine calls_wd ?_
    go_enter Try.func19, Try.ntmps19
    go_wp2_with (first
        | (go_at_call 61; ((with_reducible refine (new_any _ r _ (HD.out _ (HV.out.more (more_wd _ _ _))) hl).mono ?_); rintro x w1 hnr; obtain ⟨v0, m0, rfl, hr0, rfl⟩ := hnr.wd; clear hnr; have HOS := Lib.hid (fun (s' : Stp) a' c' f' d' => ownRd (w := w) (c := m0.e) (L := [sbk s' a' c' f' d' 36, sbk (stpBlank 0) none 0 none 0 36]) (p := sz w.heap.size [m0.e.size, 1, 1]) (v0 := v0) (l := r) rfl hr0); clear hr0))
        | (go_at_call 63; ((with_reducible refine (num_any _ v0 r 0 _ ((HOS.out _ _ _ _ _).r0 _ _ _) ((HOS.out _ _ _ _ _).b0 _ _ _ _ _ (fun _ h => h))).mono ?_); rintro x w1 ⟨rfl, ht⟩; obtain ⟨v1, m1, hb1, rfl⟩ := took_own0 (L := [_, _, _]) rfl ht; have HB1 := Lib.hid hb1; clear ht hb1))
        | (go_at_call 12; ((with_reducible refine (HPUT.out none 0 none 0 _ (HAT0.out _)).mono ?_); rintro e w2 ⟨u9, rfl, hm9⟩; obtain ⟨p9, rfl, hs9⟩ := hm9.wd; clear hm9; have HU := Lib.hid (RB.of_row (k := p9.n) hs9 _ rfl); clear hs9))
        | (go_at_call 57; ((with_reducible refine (equal_any _ u9 (b :: r) pl _ (HV.out.more (more_wd _ _ _)) HU.out).mono ?_); rintro e w1 ⟨rfl, rfl⟩)))
    all_goals
      refine bodyPost_ret (v := .tuple #[.agg (stp (stpBlank 0) none 0 none 0), .int .i64 4]) ?_ rfl ?_
      · simp [results, Try.results19, go_sem]
      · refine ⟨none, 0, none, 0, ?_, ?_, more_wd _ _ _, by rw [HX.out]; exact From.nil _ _, by rw [HX.out]; exact From.nil _ _⟩
        · rw [HX.out]
        · rw [HX.out]; exact blank_at _
set_option maxRecDepth 100000 in
set_option maxHeartbeats 3200000 in
theorem getstp_3 (b : UInt8) (r : List UInt8) (v : Value) (w : World) (hv : RB w v (b :: r)) (hl : r.length ≤ 1099511627776) (hk : b.toNat = 3) :
    Calls Try.prog 19 #[v] w fun x w' => StpRet w w' x (stpGet (b :: r)) := by
  obtain ⟨D, hD⟩ : ∃ D, decide (fixV (numL r 0) (numE r 0) = 1) = D := ⟨_, rfl⟩
  have hbq : (fixV (numL r 0) (numE r 0) == 1) = D := by rw [← hD]; rfl
  have HV := Lib.hid hv
  have HSD : Hid (stpDec b r = (⟨b.toNat, (stpBlank b.toNat).q, numV r 0, D, (stpBlank b.toNat).fate⟩ : Stp)) := Lib.hid (by unfold stpDec; rw [if_neg (by omega), if_neg (by omega), if_pos hk, hD]; try rfl)
  have HFIT : Hid (StpFit (⟨b.toNat, (stpBlank b.toNat).q, numV r 0, D, (stpBlank b.toNat).fate⟩ : Stp)) := Lib.hid (HSD.out ▸ stpDec_fit b r)
  have HG : Hid (stpGet (b :: r) = if stpPut (⟨b.toNat, (stpBlank b.toNat).q, numV r 0, D, (stpBlank b.toNat).fate⟩ : Stp) = (b :: r, 0) then ((⟨b.toNat, (stpBlank b.toNat).q, numV r 0, D, (stpBlank b.toNat).fate⟩ : Stp), 0) else (stpBlank 0, 4)) := Lib.hid (by rw [stpGet_cons, HSD.out])
  have HPUT := Lib.hid (fun a c f d W h => pst_any (⟨b.toNat, (stpBlank b.toNat).q, numV r 0, D, (stpBlank b.toNat).fate⟩ : Stp) a c f d W HFIT.out h)
  obtain ⟨P, hP⟩ : ∃ P, stpPut (⟨b.toNat, (stpBlank b.toNat).q, numV r 0, D, (stpBlank b.toNat).fate⟩ : Stp) = P := ⟨_, rfl⟩
  rw [hP] at HG HPUT
  clear hP
  obtain ⟨pl, pe⟩ := P
  dsimp only at HPUT HG
  obtain ⟨av, cv, rfl, hcap, hm, hc⟩ := hv
  obtain ⟨p, off, rfl, hp, hcell⟩ := hc (by simp)
  have c0 : w.cell? ⟨p, off, none⟩ = some (.int .u8 b.toNat) := by have := hcell 0 (by simp); simpa [bc_get] using this
  have hb8 : b.toNat < 256 := b.toNat_lt
  obtain ⟨a2, cap2, hd, hd1, hd2, hd3⟩ := HV.out.drop 1 (by simp)
  have hd' : dropV (.slice (some ⟨p, off, none⟩) (b :: r).length cv) 1 = .slice a2 r.length cap2 := hd
  have hs := run_slice_from (P := Try.prog) 28 5 Try.underlying28 sz_u8 HV.out 1 (by decide) (by simp only [List.length_cons]; omega)
  rw [show (1 : Int).toNat = 1 from rfl, hd'] at hs
  have HD : Hid (∀ W0, RB W0 (.slice (some ⟨p, off, none⟩) (b :: r).length cv) (b :: r) → RB W0 (.slice a2 r.length cap2) r) := Lib.hid (fun W0 h => hd' ▸ (h.drop 1 (by simp) : RB W0 (dropV _ 1) r))
  have n0 : ((b.toNat : Int) == 0) = false := by rw [beq_eq_false_iff_ne]; omega
  have n1 : ((b.toNat : Int) == 1) = false := by rw [beq_eq_false_iff_ne]; omega
  have n2 : ((b.toNat : Int) == 2) = false := by rw [beq_eq_false_iff_ne]; omega
  have n4 : ((b.toNat : Int) == 4) = false := by rw [beq_eq_false_iff_ne]; omega
  have m3 : ((b.toNat : Int) == 3) = true := by rw [beq_iff_eq]; omega
  obtain ⟨N, hN⟩ : ∃ N, (b :: r).length = N := ⟨_, rfl⟩
  rw [hN] at HV HD hs hcap ⊢
  have hN1 : 1 ≤ N := by rw [← hN, List.length_cons]; omega
  have hN2 : N ≤ 1099511627777 := by rw [← hN, List.length_cons]; omega
  have hN0 : ((N : Int) == 0) = false := by rw [beq_eq_false_iff_ne]; omega
  clear hcell hc hd hd' hd3 hN hk
  have HAT0 := Lib.hid (fun W => (⟨RowAt.nil _, RB.nil _⟩ : StpAt W (⟨b.toNat, (stpBlank b.toNat).q, numV r 0, D, (stpBlank b.toNat).fate⟩ : Stp) none none 0))
  by_cases hpe : pe = 0
  · subst hpe
    by_cases hpl : b :: r = pl
    · have HX : Hid (stpGet (b :: r) = ((⟨b.toNat, (stpBlank b.toNat).q, numV r 0, D, (stpBlank b.toNat).fate⟩ : Stp), 0)) := Lib.hid (by rw [HG.out, if_pos (by rw [hpl])])
      have hdec : decide (b :: r = pl) = true := decide_eq_true hpl
      clear hpl
      refine calls_wd ?_
      go_enter Try.func19, Try.ntmps19
      go_wp2_with (first
        | (go_at_call 61; ((with_reducible refine (new_any _ r _ (HD.out _ (HV.out.more (more_wd _ _ _))) hl).mono ?_); rintro x w1 hnr; obtain ⟨v0, m0, rfl, hr0, rfl⟩ := hnr.wd; clear hnr; have HOS := Lib.hid (fun (s' : Stp) a' c' f' d' => ownRd (w := w) (c := m0.e) (L := [sbk s' a' c' f' d' 36, sbk (stpBlank 0) none 0 none 0 36]) (p := sz w.heap.size [m0.e.size, 1, 1]) (v0 := v0) (l := r) rfl hr0); clear hr0))
        | (go_at_call 63; ((with_reducible refine (num_any _ v0 r 0 _ ((HOS.out _ _ _ _ _).r0 _ _ _) ((HOS.out _ _ _ _ _).b0 _ _ _ _ _ (fun _ h => h))).mono ?_); rintro x w1 ⟨rfl, ht⟩; obtain ⟨v1, m1, hb1, rfl⟩ := took_own0 (L := [_, _, _]) rfl ht; have HB1 := Lib.hid hb1; clear ht hb1))
        | (go_at_call 64; ((with_reducible refine (fix_any _ v1 (numL r 0) (numE r 0) _ ((HOS.out _ _ _ _ _).r1 _ _ _ _) ((HOS.out _ _ _ _ _).b1 _ _ _ _ _ _ HB1.out)).mono ?_); rintro x w1 ⟨rfl, ht⟩; obtain ⟨v2, m2, hb2, rfl⟩ := took_own1 (L := [_, _, _]) rfl ht; clear ht hb2))
        | (go_at_call 12; ((with_reducible refine (HPUT.out none 0 none 0 _ (HAT0.out _)).mono ?_); rintro e w2 ⟨u9, rfl, hm9⟩; obtain ⟨p9, rfl, hs9⟩ := hm9.wd; clear hm9; have HU := Lib.hid (RB.of_row (k := p9.n) hs9 _ rfl); clear hs9))
        | (go_at_call 57; ((with_reducible refine (equal_any _ u9 (b :: r) pl _ (HV.out.more (more_wd _ _ _)) HU.out).mono ?_); rintro e w1 ⟨rfl, rfl⟩)))
      refine bodyPost_ret (v := .tuple #[.agg (stp (⟨b.toNat, (stpBlank b.toNat).q, numV r 0, D, (stpBlank b.toNat).fate⟩ : Stp) none 0 none 0), .int .i64 0]) ?_ rfl ?_
      · simp [results, Try.results19, go_sem]
      · refine ⟨none, 0, none, 0, ?_, ?_, more_wd _ _ _, by rw [HX.out]; exact From.nil _ _, by rw [HX.out]; exact From.nil _ _⟩
        · rw [HX.out]
        · rw [HX.out]; exact ⟨RowAt.nil _, RB.nil _⟩
    · have HX : Hid (stpGet (b :: r) = (stpBlank 0, 4)) := Lib.hid (by rw [HG.out, if_neg (by intro h; exact hpl (congrArg Prod.fst h).symm)])
      have hdec : decide (b :: r = pl) = false := decide_eq_false hpl
      clear hpl
      refine calls_wd ?_
      go_enter Try.func19, Try.ntmps19
      go_wp2_with (first
        | (go_at_call 61; ((with_reducible refine (new_any _ r _ (HD.out _ (HV.out.more (more_wd _ _ _))) hl).mono ?_); rintro x w1 hnr; obtain ⟨v0, m0, rfl, hr0, rfl⟩ := hnr.wd; clear hnr; have HOS := Lib.hid (fun (s' : Stp) a' c' f' d' => ownRd (w := w) (c := m0.e) (L := [sbk s' a' c' f' d' 36, sbk (stpBlank 0) none 0 none 0 36]) (p := sz w.heap.size [m0.e.size, 1, 1]) (v0 := v0) (l := r) rfl hr0); clear hr0))
        | (go_at_call 63; ((with_reducible refine (num_any _ v0 r 0 _ ((HOS.out _ _ _ _ _).r0 _ _ _) ((HOS.out _ _ _ _ _).b0 _ _ _ _ _ (fun _ h => h))).mono ?_); rintro x w1 ⟨rfl, ht⟩; obtain ⟨v1, m1, hb1, rfl⟩ := took_own0 (L := [_, _, _]) rfl ht; have HB1 := Lib.hid hb1; clear ht hb1))
        | (go_at_call 64; ((with_reducible refine (fix_any _ v1 (numL r 0) (numE r 0) _ ((HOS.out _ _ _ _ _).r1 _ _ _ _) ((HOS.out _ _ _ _ _).b1 _ _ _ _ _ _ HB1.out)).mono ?_); rintro x w1 ⟨rfl, ht⟩; obtain ⟨v2, m2, hb2, rfl⟩ := took_own1 (L := [_, _, _]) rfl ht; clear ht hb2))
        | (go_at_call 12; ((with_reducible refine (HPUT.out none 0 none 0 _ (HAT0.out _)).mono ?_); rintro e w2 ⟨u9, rfl, hm9⟩; obtain ⟨p9, rfl, hs9⟩ := hm9.wd; clear hm9; have HU := Lib.hid (RB.of_row (k := p9.n) hs9 _ rfl); clear hs9))
        | (go_at_call 57; ((with_reducible refine (equal_any _ u9 (b :: r) pl _ (HV.out.more (more_wd _ _ _)) HU.out).mono ?_); rintro e w1 ⟨rfl, rfl⟩)))
      refine bodyPost_ret (v := .tuple #[.agg (stp (stpBlank 0) none 0 none 0), .int .i64 4]) ?_ rfl ?_
      · simp [results, Try.results19, go_sem]
      · refine ⟨none, 0, none, 0, ?_, ?_, more_wd _ _ _, by rw [HX.out]; exact From.nil _ _, by rw [HX.out]; exact From.nil _ _⟩
        · rw [HX.out]
        · rw [HX.out]; exact blank_at _
  · have HX : Hid (stpGet (b :: r) = (stpBlank 0, 4)) := Lib.hid (by rw [HG.out, if_neg (by intro h; exact hpe (congrArg Prod.snd h))])
    have hne : (pe == 0) = false := by rw [beq_eq_false_iff_ne]; exact hpe
    refine calls_wd ?_
    go_enter Try.func19, Try.ntmps19
    go_wp2_with (first
        | (go_at_call 61; ((with_reducible refine (new_any _ r _ (HD.out _ (HV.out.more (more_wd _ _ _))) hl).mono ?_); rintro x w1 hnr; obtain ⟨v0, m0, rfl, hr0, rfl⟩ := hnr.wd; clear hnr; have HOS := Lib.hid (fun (s' : Stp) a' c' f' d' => ownRd (w := w) (c := m0.e) (L := [sbk s' a' c' f' d' 36, sbk (stpBlank 0) none 0 none 0 36]) (p := sz w.heap.size [m0.e.size, 1, 1]) (v0 := v0) (l := r) rfl hr0); clear hr0))
        | (go_at_call 63; ((with_reducible refine (num_any _ v0 r 0 _ ((HOS.out _ _ _ _ _).r0 _ _ _) ((HOS.out _ _ _ _ _).b0 _ _ _ _ _ (fun _ h => h))).mono ?_); rintro x w1 ⟨rfl, ht⟩; obtain ⟨v1, m1, hb1, rfl⟩ := took_own0 (L := [_, _, _]) rfl ht; have HB1 := Lib.hid hb1; clear ht hb1))
        | (go_at_call 64; ((with_reducible refine (fix_any _ v1 (numL r 0) (numE r 0) _ ((HOS.out _ _ _ _ _).r1 _ _ _ _) ((HOS.out _ _ _ _ _).b1 _ _ _ _ _ _ HB1.out)).mono ?_); rintro x w1 ⟨rfl, ht⟩; obtain ⟨v2, m2, hb2, rfl⟩ := took_own1 (L := [_, _, _]) rfl ht; clear ht hb2))
        | (go_at_call 12; ((with_reducible refine (HPUT.out none 0 none 0 _ (HAT0.out _)).mono ?_); rintro e w2 ⟨u9, rfl, hm9⟩; obtain ⟨p9, rfl, hs9⟩ := hm9.wd; clear hm9; have HU := Lib.hid (RB.of_row (k := p9.n) hs9 _ rfl); clear hs9))
        | (go_at_call 57; ((with_reducible refine (equal_any _ u9 (b :: r) pl _ (HV.out.more (more_wd _ _ _)) HU.out).mono ?_); rintro e w1 ⟨rfl, rfl⟩)))
    all_goals
      refine bodyPost_ret (v := .tuple #[.agg (stp (stpBlank 0) none 0 none 0), .int .i64 4]) ?_ rfl ?_
      · simp [results, Try.results19, go_sem]
      · refine ⟨none, 0, none, 0, ?_, ?_, more_wd _ _ _, by rw [HX.out]; exact From.nil _ _, by rw [HX.out]; exact From.nil _ _⟩
        · rw [HX.out]
        · rw [HX.out]; exact blank_at _
set_option maxRecDepth 100000 in
set_option maxHeartbeats 3200000 in
theorem getstp_4 (b : UInt8) (r : List UInt8) (v : Value) (w : World) (hv : RB w v (b :: r)) (hl : r.length ≤ 1099511627776) (hk : b.toNat = 4) :
    Calls Try.prog 19 #[v] w fun x w' => StpRet w w' x (stpGet (b :: r)) := by
  have HV := Lib.hid hv
  have HSD : Hid (stpDec b r = (⟨b.toNat, (stpBlank b.toNat).q, (stpBlank b.toNat).n, (stpBlank b.toNat).done, r⟩ : Stp)) := Lib.hid (by unfold stpDec; rw [if_neg (by omega), if_neg (by omega), if_neg (by omega), if_pos hk]; try rfl)
  have HFIT : Hid (StpFit (⟨b.toNat, (stpBlank b.toNat).q, (stpBlank b.toNat).n, (stpBlank b.toNat).done, r⟩ : Stp)) := Lib.hid (HSD.out ▸ stpDec_fit b r)
  have HG : Hid (stpGet (b :: r) = if stpPut (⟨b.toNat, (stpBlank b.toNat).q, (stpBlank b.toNat).n, (stpBlank b.toNat).done, r⟩ : Stp) = (b :: r, 0) then ((⟨b.toNat, (stpBlank b.toNat).q, (stpBlank b.toNat).n, (stpBlank b.toNat).done, r⟩ : Stp), 0) else (stpBlank 0, 4)) := Lib.hid (by rw [stpGet_cons, HSD.out])
  have HPUT := Lib.hid (fun a c f d W h => pst_any (⟨b.toNat, (stpBlank b.toNat).q, (stpBlank b.toNat).n, (stpBlank b.toNat).done, r⟩ : Stp) a c f d W HFIT.out h)
  obtain ⟨P, hP⟩ : ∃ P, stpPut (⟨b.toNat, (stpBlank b.toNat).q, (stpBlank b.toNat).n, (stpBlank b.toNat).done, r⟩ : Stp) = P := ⟨_, rfl⟩
  rw [hP] at HG HPUT
  clear hP
  obtain ⟨pl, pe⟩ := P
  dsimp only at HPUT HG
  obtain ⟨av, cv, rfl, hcap, hm, hc⟩ := hv
  obtain ⟨p, off, rfl, hp, hcell⟩ := hc (by simp)
  have c0 : w.cell? ⟨p, off, none⟩ = some (.int .u8 b.toNat) := by have := hcell 0 (by simp); simpa [bc_get] using this
  have hb8 : b.toNat < 256 := b.toNat_lt
  obtain ⟨a2, cap2, hd, hd1, hd2, hd3⟩ := HV.out.drop 1 (by simp)
  have hd' : dropV (.slice (some ⟨p, off, none⟩) (b :: r).length cv) 1 = .slice a2 r.length cap2 := hd
  have hs := run_slice_from (P := Try.prog) 28 5 Try.underlying28 sz_u8 HV.out 1 (by decide) (by simp only [List.length_cons]; omega)
  rw [show (1 : Int).toNat = 1 from rfl, hd'] at hs
  have HD : Hid (∀ W0, RB W0 (.slice (some ⟨p, off, none⟩) (b :: r).length cv) (b :: r) → RB W0 (.slice a2 r.length cap2) r) := Lib.hid (fun W0 h => hd' ▸ (h.drop 1 (by simp) : RB W0 (dropV _ 1) r))
  have n0 : ((b.toNat : Int) == 0) = false := by rw [beq_eq_false_iff_ne]; omega
  have n1 : ((b.toNat : Int) == 1) = false := by rw [beq_eq_false_iff_ne]; omega
  have n2 : ((b.toNat : Int) == 2) = false := by rw [beq_eq_false_iff_ne]; omega
  have n3 : ((b.toNat : Int) == 3) = false := by rw [beq_eq_false_iff_ne]; omega
  have m4 : ((b.toNat : Int) == 4) = true := by rw [beq_iff_eq]; omega
  obtain ⟨N, hN⟩ : ∃ N, (b :: r).length = N := ⟨_, rfl⟩
  rw [hN] at HV HD hs hcap ⊢
  have hN1 : 1 ≤ N := by rw [← hN, List.length_cons]; omega
  have hN2 : N ≤ 1099511627777 := by rw [← hN, List.length_cons]; omega
  have hN0 : ((N : Int) == 0) = false := by rw [beq_eq_false_iff_ne]; omega
  clear hcell hc hd hd' hd3 hN hk
  have HRN := Lib.hid (fun W => (RowAt.nil _ : RecsAt W none ((⟨b.toNat, (stpBlank b.toNat).q, (stpBlank b.toNat).n, (stpBlank b.toNat).done, r⟩ : Stp)).q.batch.recs))
  by_cases hpe : pe = 0
  · subst hpe
    by_cases hpl : b :: r = pl
    · have HX : Hid (stpGet (b :: r) = ((⟨b.toNat, (stpBlank b.toNat).q, (stpBlank b.toNat).n, (stpBlank b.toNat).done, r⟩ : Stp), 0)) := Lib.hid (by rw [HG.out, if_pos (by rw [hpl])])
      have hdec : decide (b :: r = pl) = true := decide_eq_true hpl
      clear hpl
      refine calls_wd ?_
      go_enter Try.func19, Try.ntmps19
      go_wp2_with (first
        | (go_at_call 61; ((with_reducible refine (new_any _ r _ (HD.out _ (HV.out.more (more_wd _ _ _))) hl).mono ?_); rintro x w1 hnr; obtain ⟨v0, m0, rfl, hr0, rfl⟩ := hnr.wd; clear hnr; have HOS := Lib.hid (fun (s' : Stp) a' c' f' d' => ownRd (w := w) (c := m0.e) (L := [sbk s' a' c' f' d' 36, sbk (stpBlank 0) none 0 none 0 36]) (p := sz w.heap.size [m0.e.size, 1, 1]) (v0 := v0) (l := r) rfl hr0); clear hr0))
        | ((go_at_call 65; ((with_reducible refine (clone_any _ r _ (HD.out _ (HV.out.more (more_wd _ _ _))) hl).mono ?_); rintro e w1 ⟨x0, rfl, x1⟩; obtain ⟨m1, rfl, hr1⟩ := x1.wd; clear x1; obtain ⟨a1, c1, rfl⟩ := rowIn_slice hr1)); have HCL := Lib.hid (fun (s' : Stp) (n : Nat) => (RB.of_row (L := [rbk v0 0, m0.e, sbk s' none 0 a1 c1 36, sbk (stpBlank 0) none 0 none 0 36]) (k := n) hr1 _ rfl)); have HCF := Lib.hid (fun (s' : Stp) (p9 : Array Obj) => rb_push (d := p9) (n := 0) (RB.of_row (L := [rbk v0 0, m0.e, sbk s' none 0 a1 c1 36, sbk s' none 0 a1 c1 36]) (k := 0) hr1 _ rfl)); have HFF : Hid (From w.heap.size a1 r) := Lib.hid (from_row hr1 rfl); clear hr1)
        | (go_at_call 12; ((with_reducible refine (HPUT.out none 0 a1 c1 _ (⟨HRN.out _, HCL.out _ _⟩)).mono ?_); rintro e w2 ⟨u9, rfl, hm9⟩; obtain ⟨p9, rfl, hs9⟩ := hm9.wd; clear hm9; have HU := Lib.hid (RB.of_row (k := p9.n) hs9 _ rfl); clear hs9))
        | (go_at_call 57; ((with_reducible refine (equal_any _ u9 (b :: r) pl _ (HV.out.more (more_wd _ _ _)) HU.out).mono ?_); rintro e w1 ⟨rfl, rfl⟩)))
      refine bodyPost_ret (v := .tuple #[.agg (stp (⟨b.toNat, (stpBlank b.toNat).q, (stpBlank b.toNat).n, (stpBlank b.toNat).done, r⟩ : Stp) none 0 a1 c1), .int .i64 0]) ?_ rfl ?_
      · simp [results, Try.results19, go_sem]
      · refine ⟨none, 0, a1, c1, ?_, ?_, more_wd _ _ _, by rw [HX.out]; exact From.nil _ _, by rw [HX.out]; exact HFF.out⟩
        · rw [HX.out]
        · rw [HX.out]; exact ⟨RowAt.nil _, HCF.out _ _⟩
    · have HX : Hid (stpGet (b :: r) = (stpBlank 0, 4)) := Lib.hid (by rw [HG.out, if_neg (by intro h; exact hpl (congrArg Prod.fst h).symm)])
      have hdec : decide (b :: r = pl) = false := decide_eq_false hpl
      clear hpl
      refine calls_wd ?_
      go_enter Try.func19, Try.ntmps19
      go_wp2_with (first
        | (go_at_call 61; ((with_reducible refine (new_any _ r _ (HD.out _ (HV.out.more (more_wd _ _ _))) hl).mono ?_); rintro x w1 hnr; obtain ⟨v0, m0, rfl, hr0, rfl⟩ := hnr.wd; clear hnr; have HOS := Lib.hid (fun (s' : Stp) a' c' f' d' => ownRd (w := w) (c := m0.e) (L := [sbk s' a' c' f' d' 36, sbk (stpBlank 0) none 0 none 0 36]) (p := sz w.heap.size [m0.e.size, 1, 1]) (v0 := v0) (l := r) rfl hr0); clear hr0))
        | ((go_at_call 65; ((with_reducible refine (clone_any _ r _ (HD.out _ (HV.out.more (more_wd _ _ _))) hl).mono ?_); rintro e w1 ⟨x0, rfl, x1⟩; obtain ⟨m1, rfl, hr1⟩ := x1.wd; clear x1; obtain ⟨a1, c1, rfl⟩ := rowIn_slice hr1)); have HCL := Lib.hid (fun (s' : Stp) (n : Nat) => (RB.of_row (L := [rbk v0 0, m0.e, sbk s' none 0 a1 c1 36, sbk (stpBlank 0) none 0 none 0 36]) (k := n) hr1 _ rfl)); have HCF := Lib.hid (fun (s' : Stp) (p9 : Array Obj) => rb_push (d := p9) (n := 0) (RB.of_row (L := [rbk v0 0, m0.e, sbk s' none 0 a1 c1 36, sbk s' none 0 a1 c1 36]) (k := 0) hr1 _ rfl)); have HFF : Hid (From w.heap.size a1 r) := Lib.hid (from_row hr1 rfl); clear hr1)
        | (go_at_call 12; ((with_reducible refine (HPUT.out none 0 a1 c1 _ (⟨HRN.out _, HCL.out _ _⟩)).mono ?_); rintro e w2 ⟨u9, rfl, hm9⟩; obtain ⟨p9, rfl, hs9⟩ := hm9.wd; clear hm9; have HU := Lib.hid (RB.of_row (k := p9.n) hs9 _ rfl); clear hs9))
        | (go_at_call 57; ((with_reducible refine (equal_any _ u9 (b :: r) pl _ (HV.out.more (more_wd _ _ _)) HU.out).mono ?_); rintro e w1 ⟨rfl, rfl⟩)))
      refine bodyPost_ret (v := .tuple #[.agg (stp (stpBlank 0) none 0 none 0), .int .i64 4]) ?_ rfl ?_
      · simp [results, Try.results19, go_sem]
      · refine ⟨none, 0, none, 0, ?_, ?_, more_wd _ _ _, by rw [HX.out]; exact From.nil _ _, by rw [HX.out]; exact From.nil _ _⟩
        · rw [HX.out]
        · rw [HX.out]; exact blank_at _
  · have HX : Hid (stpGet (b :: r) = (stpBlank 0, 4)) := Lib.hid (by rw [HG.out, if_neg (by intro h; exact hpe (congrArg Prod.snd h))])
    have hne : (pe == 0) = false := by rw [beq_eq_false_iff_ne]; exact hpe
    refine calls_wd ?_
    go_enter Try.func19, Try.ntmps19
    go_wp2_with (first
        | (go_at_call 61; ((with_reducible refine (new_any _ r _ (HD.out _ (HV.out.more (more_wd _ _ _))) hl).mono ?_); rintro x w1 hnr; obtain ⟨v0, m0, rfl, hr0, rfl⟩ := hnr.wd; clear hnr; have HOS := Lib.hid (fun (s' : Stp) a' c' f' d' => ownRd (w := w) (c := m0.e) (L := [sbk s' a' c' f' d' 36, sbk (stpBlank 0) none 0 none 0 36]) (p := sz w.heap.size [m0.e.size, 1, 1]) (v0 := v0) (l := r) rfl hr0); clear hr0))
        | ((go_at_call 65; ((with_reducible refine (clone_any _ r _ (HD.out _ (HV.out.more (more_wd _ _ _))) hl).mono ?_); rintro e w1 ⟨x0, rfl, x1⟩; obtain ⟨m1, rfl, hr1⟩ := x1.wd; clear x1; obtain ⟨a1, c1, rfl⟩ := rowIn_slice hr1)); have HCL := Lib.hid (fun (s' : Stp) (n : Nat) => (RB.of_row (L := [rbk v0 0, m0.e, sbk s' none 0 a1 c1 36, sbk (stpBlank 0) none 0 none 0 36]) (k := n) hr1 _ rfl)); have HCF := Lib.hid (fun (s' : Stp) (p9 : Array Obj) => rb_push (d := p9) (n := 0) (RB.of_row (L := [rbk v0 0, m0.e, sbk s' none 0 a1 c1 36, sbk s' none 0 a1 c1 36]) (k := 0) hr1 _ rfl)); have HFF : Hid (From w.heap.size a1 r) := Lib.hid (from_row hr1 rfl); clear hr1)
        | (go_at_call 12; ((with_reducible refine (HPUT.out none 0 a1 c1 _ (⟨HRN.out _, HCL.out _ _⟩)).mono ?_); rintro e w2 ⟨u9, rfl, hm9⟩; obtain ⟨p9, rfl, hs9⟩ := hm9.wd; clear hm9; have HU := Lib.hid (RB.of_row (k := p9.n) hs9 _ rfl); clear hs9))
        | (go_at_call 57; ((with_reducible refine (equal_any _ u9 (b :: r) pl _ (HV.out.more (more_wd _ _ _)) HU.out).mono ?_); rintro e w1 ⟨rfl, rfl⟩)))
    all_goals
      refine bodyPost_ret (v := .tuple #[.agg (stp (stpBlank 0) none 0 none 0), .int .i64 4]) ?_ rfl ?_
      · simp [results, Try.results19, go_sem]
      · refine ⟨none, 0, none, 0, ?_, ?_, more_wd _ _ _, by rw [HX.out]; exact From.nil _ _, by rw [HX.out]; exact From.nil _ _⟩
        · rw [HX.out]
        · rw [HX.out]; exact blank_at _
set_option maxRecDepth 100000 in
set_option maxHeartbeats 3200000 in
theorem getstp_5 (b : UInt8) (r : List UInt8) (v : Value) (w : World) (hv : RB w v (b :: r)) (hl : r.length ≤ 1099511627776) (hk : 4 < b.toNat) :
    Calls Try.prog 19 #[v] w fun x w' => StpRet w w' x (stpGet (b :: r)) := by
  have HV := Lib.hid hv
  have HSD : Hid (stpDec b r = (stpBlank b.toNat : Stp)) := Lib.hid (by unfold stpDec; rw [if_neg (by omega), if_neg (by omega), if_neg (by omega), if_neg (by omega)]; try rfl)
  have HFIT : Hid (StpFit (stpBlank b.toNat : Stp)) := Lib.hid (HSD.out ▸ stpDec_fit b r)
  have HG : Hid (stpGet (b :: r) = if stpPut (stpBlank b.toNat : Stp) = (b :: r, 0) then ((stpBlank b.toNat : Stp), 0) else (stpBlank 0, 4)) := Lib.hid (by rw [stpGet_cons, HSD.out])
  have HPUT := Lib.hid (fun a c f d W h => pst_any (stpBlank b.toNat : Stp) a c f d W HFIT.out h)
  obtain ⟨P, hP⟩ : ∃ P, stpPut (stpBlank b.toNat : Stp) = P := ⟨_, rfl⟩
  rw [hP] at HG HPUT
  clear hP
  obtain ⟨pl, pe⟩ := P
  dsimp only at HPUT HG
  obtain ⟨av, cv, rfl, hcap, hm, hc⟩ := hv
  obtain ⟨p, off, rfl, hp, hcell⟩ := hc (by simp)
  have c0 : w.cell? ⟨p, off, none⟩ = some (.int .u8 b.toNat) := by have := hcell 0 (by simp); simpa [bc_get] using this
  have hb8 : b.toNat < 256 := b.toNat_lt
  obtain ⟨a2, cap2, hd, hd1, hd2, hd3⟩ := HV.out.drop 1 (by simp)
  have hd' : dropV (.slice (some ⟨p, off, none⟩) (b :: r).length cv) 1 = .slice a2 r.length cap2 := hd
  have hs := run_slice_from (P := Try.prog) 28 5 Try.underlying28 sz_u8 HV.out 1 (by decide) (by simp only [List.length_cons]; omega)
  rw [show (1 : Int).toNat = 1 from rfl, hd'] at hs
  have HD : Hid (∀ W0, RB W0 (.slice (some ⟨p, off, none⟩) (b :: r).length cv) (b :: r) → RB W0 (.slice a2 r.length cap2) r) := Lib.hid (fun W0 h => hd' ▸ (h.drop 1 (by simp) : RB W0 (dropV _ 1) r))
  have n0 : ((b.toNat : Int) == 0) = false := by rw [beq_eq_false_iff_ne]; omega
  have n1 : ((b.toNat : Int) == 1) = false := by rw [beq_eq_false_iff_ne]; omega
  have n2 : ((b.toNat : Int) == 2) = false := by rw [beq_eq_false_iff_ne]; omega
  have n3 : ((b.toNat : Int) == 3) = false := by rw [beq_eq_false_iff_ne]; omega
  have n4 : ((b.toNat : Int) == 4) = false := by rw [beq_eq_false_iff_ne]; omega
  obtain ⟨N, hN⟩ : ∃ N, (b :: r).length = N := ⟨_, rfl⟩
  rw [hN] at HV HD hs hcap ⊢
  have hN1 : 1 ≤ N := by rw [← hN, List.length_cons]; omega
  have hN2 : N ≤ 1099511627777 := by rw [← hN, List.length_cons]; omega
  have hN0 : ((N : Int) == 0) = false := by rw [beq_eq_false_iff_ne]; omega
  clear hcell hc hd hd' hd3 hN hk
  have HAT0 := Lib.hid (fun W => (⟨RowAt.nil _, RB.nil _⟩ : StpAt W (stpBlank b.toNat : Stp) none none 0))
  by_cases hpe : pe = 0
  · subst hpe
    by_cases hpl : b :: r = pl
    · have HX : Hid (stpGet (b :: r) = ((stpBlank b.toNat : Stp), 0)) := Lib.hid (by rw [HG.out, if_pos (by rw [hpl])])
      have hdec : decide (b :: r = pl) = true := decide_eq_true hpl
      clear hpl
      refine calls_wd ?_
      go_enter Try.func19, Try.ntmps19
      go_wp2_with (first
        | (go_at_call 61; ((with_reducible refine (new_any _ r _ (HD.out _ (HV.out.more (more_wd _ _ _))) hl).mono ?_); rintro x w1 hnr; obtain ⟨v0, m0, rfl, hr0, rfl⟩ := hnr.wd; clear hnr; have HOS := Lib.hid (fun (s' : Stp) a' c' f' d' => ownRd (w := w) (c := m0.e) (L := [sbk s' a' c' f' d' 36, sbk (stpBlank 0) none 0 none 0 36]) (p := sz w.heap.size [m0.e.size, 1, 1]) (v0 := v0) (l := r) rfl hr0); clear hr0))
        | (go_at_call 12; ((with_reducible refine (HPUT.out none 0 none 0 _ (HAT0.out _)).mono ?_); rintro e w2 ⟨u9, rfl, hm9⟩; obtain ⟨p9, rfl, hs9⟩ := hm9.wd; clear hm9; have HU := Lib.hid (RB.of_row (k := p9.n) hs9 _ rfl); clear hs9))
        | (go_at_call 57; ((with_reducible refine (equal_any _ u9 (b :: r) pl _ (HV.out.more (more_wd _ _ _)) HU.out).mono ?_); rintro e w1 ⟨rfl, rfl⟩)))
      refine bodyPost_ret (v := .tuple #[.agg (stp (stpBlank b.toNat : Stp) none 0 none 0), .int .i64 0]) ?_ rfl ?_
      · simp [results, Try.results19, go_sem]
      · refine ⟨none, 0, none, 0, ?_, ?_, more_wd _ _ _, by rw [HX.out]; exact From.nil _ _, by rw [HX.out]; exact From.nil _ _⟩
        · rw [HX.out]
        · rw [HX.out]; exact ⟨RowAt.nil _, RB.nil _⟩
    · have HX : Hid (stpGet (b :: r) = (stpBlank 0, 4)) := Lib.hid (by rw [HG.out, if_neg (by intro h; exact hpl (congrArg Prod.fst h).symm)])
      have hdec : decide (b :: r = pl) = false := decide_eq_false hpl
      clear hpl
      refine calls_wd ?_
      go_enter Try.func19, Try.ntmps19
      go_wp2_with (first
        | (go_at_call 61; ((with_reducible refine (new_any _ r _ (HD.out _ (HV.out.more (more_wd _ _ _))) hl).mono ?_); rintro x w1 hnr; obtain ⟨v0, m0, rfl, hr0, rfl⟩ := hnr.wd; clear hnr; have HOS := Lib.hid (fun (s' : Stp) a' c' f' d' => ownRd (w := w) (c := m0.e) (L := [sbk s' a' c' f' d' 36, sbk (stpBlank 0) none 0 none 0 36]) (p := sz w.heap.size [m0.e.size, 1, 1]) (v0 := v0) (l := r) rfl hr0); clear hr0))
        | (go_at_call 12; ((with_reducible refine (HPUT.out none 0 none 0 _ (HAT0.out _)).mono ?_); rintro e w2 ⟨u9, rfl, hm9⟩; obtain ⟨p9, rfl, hs9⟩ := hm9.wd; clear hm9; have HU := Lib.hid (RB.of_row (k := p9.n) hs9 _ rfl); clear hs9))
        | (go_at_call 57; ((with_reducible refine (equal_any _ u9 (b :: r) pl _ (HV.out.more (more_wd _ _ _)) HU.out).mono ?_); rintro e w1 ⟨rfl, rfl⟩)))
      refine bodyPost_ret (v := .tuple #[.agg (stp (stpBlank 0) none 0 none 0), .int .i64 4]) ?_ rfl ?_
      · simp [results, Try.results19, go_sem]
      · refine ⟨none, 0, none, 0, ?_, ?_, more_wd _ _ _, by rw [HX.out]; exact From.nil _ _, by rw [HX.out]; exact From.nil _ _⟩
        · rw [HX.out]
        · rw [HX.out]; exact blank_at _
  · have HX : Hid (stpGet (b :: r) = (stpBlank 0, 4)) := Lib.hid (by rw [HG.out, if_neg (by intro h; exact hpe (congrArg Prod.snd h))])
    have hne : (pe == 0) = false := by rw [beq_eq_false_iff_ne]; exact hpe
    refine calls_wd ?_
    go_enter Try.func19, Try.ntmps19
    go_wp2_with (first
        | (go_at_call 61; ((with_reducible refine (new_any _ r _ (HD.out _ (HV.out.more (more_wd _ _ _))) hl).mono ?_); rintro x w1 hnr; obtain ⟨v0, m0, rfl, hr0, rfl⟩ := hnr.wd; clear hnr; have HOS := Lib.hid (fun (s' : Stp) a' c' f' d' => ownRd (w := w) (c := m0.e) (L := [sbk s' a' c' f' d' 36, sbk (stpBlank 0) none 0 none 0 36]) (p := sz w.heap.size [m0.e.size, 1, 1]) (v0 := v0) (l := r) rfl hr0); clear hr0))
        | (go_at_call 12; ((with_reducible refine (HPUT.out none 0 none 0 _ (HAT0.out _)).mono ?_); rintro e w2 ⟨u9, rfl, hm9⟩; obtain ⟨p9, rfl, hs9⟩ := hm9.wd; clear hm9; have HU := Lib.hid (RB.of_row (k := p9.n) hs9 _ rfl); clear hs9))
        | (go_at_call 57; ((with_reducible refine (equal_any _ u9 (b :: r) pl _ (HV.out.more (more_wd _ _ _)) HU.out).mono ?_); rintro e w1 ⟨rfl, rfl⟩)))
    all_goals
      refine bodyPost_ret (v := .tuple #[.agg (stp (stpBlank 0) none 0 none 0), .int .i64 4]) ?_ rfl ?_
      · simp [results, Try.results19, go_sem]
      · refine ⟨none, 0, none, 0, ?_, ?_, more_wd _ _ _, by rw [HX.out]; exact From.nil _ _, by rw [HX.out]; exact From.nil _ _⟩
        · rw [HX.out]
        · rw [HX.out]; exact blank_at _
end Go.Proofs.Ytejokhgabcldhaa
