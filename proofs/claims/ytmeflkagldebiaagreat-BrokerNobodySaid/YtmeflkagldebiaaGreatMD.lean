/- record: Get. -/
import Derived.Test.YtmeflkagldebiaaGreatMC
namespace Go.Proofs.YtmeflkagldebiaaGreat
open Go.ChangeShapes Go.WideShapes Go.ChangeAt Go.RowKit
set_option linter.unusedVariables false
set_option linter.unusedSimpArgs false

theorem fixV_nat (l : List UInt8) (e : Int) : ∃ n : Nat, n < 256 ∧ fixV l e = n := by
  unfold fixV
  split
  · cases l with
    | nil => exact ⟨0, by decide, rfl⟩
    | cons b r => exact ⟨b.toNat, b.toNat_lt, rfl⟩
  · exact ⟨0, by decide, rfl⟩
theorem and2 : ∀ y : Nat, y < 256 → y &&& 2 = if y / 2 % 2 = 1 then 2 else 0 := by decide +kernel
theorem and1 : ∀ y : Nat, y < 256 → y &&& 1 = if y % 2 = 1 then 1 else 0 := by decide +kernel
theorem u64_and2 (y : Nat) (hy : y < 256) : bits .and .u64 (y : Int) 2 = if y / 2 % 2 = 1 then 2 else 0 := by
  have h := Go.u64_and_nat y 2 (by omega) (by decide)
  rw [and2 y hy] at h
  rw [show (2 : Int) = ((2 : Nat) : Int) from rfl, h]; split <;> rfl
theorem u64_and1' (y : Nat) (hy : y < 256) : bits .and .u64 (y : Int) 1 = if y % 2 = 1 then 1 else 0 := by
  have h := Go.u64_and_nat y 1 (by omega) (by decide)
  rw [and1 y hy] at h
  rw [show (1 : Int) = ((1 : Nat) : Int) from rfl, h]; split <;> rfl
/-- recGet, its parts by name. -/
def recEnd (f : Int) (q : List UInt8 × Int) (r : Rec) : List UInt8 × Int × Rec × Int :=
  if q.2 ≠ 0 then (q.1, q.2, Rec.zero, q.2) else if 3 < f ∨ recCheck r ≠ 0 then (q.1, q.2, Rec.zero, 4) else (q.1, q.2, r, 0)
theorem recGet_eq (l : List UInt8) (e : Int) (n : Nat) (hn : fixV l e = n) (K V : List UInt8 × Int × List UInt8)
    (hK : K = if n % 2 = 1 then txt (numL (numL (fixL l e) (fixE l e)) (numE (fixL l e) (fixE l e))) (numE (numL (fixL l e) (fixE l e)) (numE (fixL l e) (fixE l e))) 64 else (numL (numL (fixL l e) (fixE l e)) (numE (fixL l e) (fixE l e)), numE (numL (fixL l e) (fixE l e)) (numE (fixL l e) (fixE l e)), []))
    (hV : V = if n / 2 % 2 = 1 then (K.1, K.2.1, []) else txt K.1 K.2.1 512) :
    recGet l e = recEnd n (V.1, V.2.1) ⟨numV (fixL l e) (fixE l e), numV (numL (fixL l e) (fixE l e)) (numE (fixL l e) (fixE l e)), decide (n % 2 = 1), K.2.2, decide (n / 2 % 2 = 1), V.2.2⟩ := by
  have e1 : ((n : Int) % 2 = 1) = (n % 2 = 1) := by simp only [eq_iff_iff]; omega
  have e2 : ((n : Int) / 2 % 2 = 1) = (n / 2 % 2 = 1) := by simp only [eq_iff_iff]; omega
  have e3 : ((n : Int) / 2 % 2 = 0) = (¬ n / 2 % 2 = 1) := by simp only [eq_iff_iff]; omega
  unfold recGet recEnd
  dsimp only
  rw [hn]
  simp only [e1, e2, e3]
  rw [← hK]
  have hV' : V = if ¬ n / 2 % 2 = 1 then txt K.1 K.2.1 512 else (K.1, K.2.1, []) := by
    rw [hV]; by_cases h : n / 2 % 2 = 1 <;> simp [h]
  rw [← hV']
/-- A record off a reader. -/
structure RecGot (w w' : World) (x : Ending) (p : Nat) (v : Value) (l : List UInt8) (g : List UInt8 × Int × Rec × Int) : Prop where
  res : x = .returned (.tuple #[recV g.2.2.1, .int .i64 g.2.2.2])
  took : Took w w' p v l g.1 g.2.1
theorem recgot {w : World} {x : Ending} {p : Nat} {v v' : Value} {l l' : List UInt8} {e' e : Int} {g : List UInt8 × Int × Rec × Int} {r : Rec} (L : List (Array Obj)) (n : Nat) (hg : g = (l', e', r, e)) (hx : x = .returned (.tuple #[recV r, .int .i64 e]))
    (hk : ∀ W0, RB W0 v l → RB W0 v' l') : RecGot w (wd (rset w p v' e') L n) x p v l g := by
  subst hg hx
  exact ⟨rfl, took_of hk rfl rfl⟩
theorem recend_err {g : List UInt8 × Int × Rec × Int} {f e : Int} {l : List UInt8} {r : Rec} (h : g = recEnd f (l, e) r) (he : e ≠ 0) : g = (l, e, Rec.zero, e) := by rw [h]; unfold recEnd; rw [if_pos he]
theorem recend_form {g : List UInt8 × Int × Rec × Int} {f e : Int} {l : List UInt8} {r : Rec} (h : g = recEnd f (l, e) r) (he : e = 0) (hf : 3 < f ∨ recCheck r ≠ 0) : g = (l, 0, Rec.zero, 4) := by subst he; rw [h]; unfold recEnd; rw [if_neg (by simp), if_pos hf]
theorem recend_ok {g : List UInt8 × Int × Rec × Int} {f e : Int} {l : List UInt8} {r : Rec} (h : g = recEnd f (l, e) r) (he : e = 0) (hf : f ≤ 3) (hc : recCheck r = 0) : g = (l, 0, r, 0) := by subst he; rw [h]; unfold recEnd; rw [if_neg (by simp), if_neg (by rw [hc]; simp; omega)]
set_option maxRecDepth 100000 in
set_option maxHeartbeats 6400000 in
theorem recget_any (p : Nat) (v : Value) (l : List UInt8) (e : Int) (w : World) (hr : Rdr w p v e) (hv : RB w v l) : Calls Tryz.prog 138 #[.pointer (some ⟨p, 0, none⟩)] w fun x w' => RecGot w w' x p v l (recGet l e) := by
  have HV := Lib.hid hv
  have HR := Lib.hid hr
  have hlt := hr.lt
  clear hr hv
  obtain ⟨n, hn, hf⟩ := fixV_nat l e
  have HG := Lib.hid (fun K V => recGet_eq l e n hf K V)
  have hfix := fun (W : World) (hr : Rdr W p v e) (h : RB W v l) => hf ▸ fix_any p v l e W hr h
  clear hf
  have a1 := u64_and1' n hn
  have a2 := u64_and2 n hn
  generalize fixL l e = l1 at hfix HG
  generalize fixE l e = e1 at hfix HG
  have hnum1 := fun (v1 : Value) (W : World) (hr : Rdr W p v1 e1) (h : RB W v1 l1) => num_any p v1 l1 e1 W hr h
  generalize numL l1 e1 = l2 at hnum1 HG
  generalize numE l1 e1 = e2 at hnum1 HG
  generalize numV l1 e1 = d at hnum1 HG
  have hnum2 := fun (v1 : Value) (W : World) (hr : Rdr W p v1 e2) (h : RB W v1 l2) => num_any p v1 l2 e2 W hr h
  generalize numL l2 e2 = l3 at hnum2 HG
  generalize numE l2 e2 = e3 at hnum2 HG
  generalize numV l2 e2 = t at hnum2 HG
  by_cases h1 : n % 2 = 1 <;> by_cases h2 : n / 2 % 2 = 1
  · -- keyed 1 dead 1
    rw [if_pos h1] at a1
    rw [if_pos h2] at a2
    have htx1 := fun (v1 : Value) (W : World) (hr : Rdr W p v1 e3) (h : RB W v1 l3) => txt_any p v1 l3 e3 64 (by decide) W hr h
    have HG1 := Lib.hid (HG.out (txt l3 e3 64) _ (by rw [if_pos h1]) rfl)
    rw [if_pos h2] at HG1
    clear HG
    simp only [h1, h2, decide_true, decide_false] at HG1
    generalize txt l3 e3 64 = T at htx1 HG1
    obtain ⟨k1, k2, k3⟩ := T
    dsimp only at htx1 HG1
    have hck := fun W => rcheck_x d t true true k3 [] W
    simp only [show str [] = ⟨#[]⟩ from rfl] at hck
    by_cases hE : k2 = 0
    · by_cases h4 : 4 ≤ (n : Int)
      · have HX := Lib.hid (recend_form HG1.out hE (.inl (by omega)))
        subst hE
        clear HG1 hck
        refine calls_wd ?_
        go_enter Tryz.func138, Tryz.ntmps138
        go_wp2_with (first
            | (go_at_call 49; ((with_reducible refine (hfix _ (HR.out.more (more_wd _ _ _)) (HV.out.more (more_wd _ _ _))).mono ?_); rintro x w1 ⟨rfl, v1, hb1, m1, rfl⟩; have HB1 := Lib.hid hb1; clear hb1))
            | (go_at_call 50; ((with_reducible refine (hnum1 v1 _ (at_rdr HR.out _ _ _ _) (at_rb HR.out HV.out HB1.out _ _ _)).mono ?_); rintro x w1 ⟨rfl, v2, hb2, m2, rfl⟩; have HB2 := Lib.hid (keep_trans HB1.out hb2); clear hb2))
            | (go_at_call 50; ((with_reducible refine (hnum2 v2 _ (at_rdr HR.out _ _ _ _) (at_rb HR.out HV.out HB2.out _ _ _)).mono ?_); rintro x w1 ⟨rfl, v3, hb3, m3, rfl⟩; have HB3 := Lib.hid (keep_trans HB2.out hb3); clear hb3))
            | (go_at_call 54; ((with_reducible refine (htx1 v3 _ (at_rdr HR.out _ _ _ _) (at_rb HR.out HV.out HB3.out _ _ _)).mono ?_); rintro x w1 ⟨rfl, v4, hb4, m4, rfl⟩; have HB4 := Lib.hid (keep_trans HB3.out hb4); clear hb4))
            | (go_at_call 133; ((with_reducible refine (err_any p v4 _ _ (at_rdr HR.out _ _ _ _)).mono ?_); rintro e w1 ⟨rfl, rfl⟩))
            | (go_at_call 233; ((with_reducible refine (hck _).mono ?_); rintro e w1 ⟨rfl, x1, n1, rfl⟩)))
        refine bodyPost_ret (v := .tuple #[.agg #[.int .i64 0, .int .i64 0, .bool false, .string ⟨#[]⟩, .bool false, .string ⟨#[]⟩], .int .i64 4]) (by simp [results, Tryz.results138, go_sem]) rfl (recgot _ _ HX.out rfl HB4.out)
      · have hd4 : decide (4 ≤ (n : Int)) = false := by simpa using h4
        generalize hC : recCheck ⟨d, t, true, k3, true, []⟩ = C at hck
        by_cases hc0 : C = 0
        · have HX := Lib.hid (recend_ok HG1.out hE (by omega) (hC.trans hc0))
          subst hE hc0
          clear HG1 hC
          refine calls_wd ?_
          go_enter Tryz.func138, Tryz.ntmps138
          go_wp2_with (first
              | (go_at_call 49; ((with_reducible refine (hfix _ (HR.out.more (more_wd _ _ _)) (HV.out.more (more_wd _ _ _))).mono ?_); rintro x w1 ⟨rfl, v1, hb1, m1, rfl⟩; have HB1 := Lib.hid hb1; clear hb1))
              | (go_at_call 50; ((with_reducible refine (hnum1 v1 _ (at_rdr HR.out _ _ _ _) (at_rb HR.out HV.out HB1.out _ _ _)).mono ?_); rintro x w1 ⟨rfl, v2, hb2, m2, rfl⟩; have HB2 := Lib.hid (keep_trans HB1.out hb2); clear hb2))
              | (go_at_call 50; ((with_reducible refine (hnum2 v2 _ (at_rdr HR.out _ _ _ _) (at_rb HR.out HV.out HB2.out _ _ _)).mono ?_); rintro x w1 ⟨rfl, v3, hb3, m3, rfl⟩; have HB3 := Lib.hid (keep_trans HB2.out hb3); clear hb3))
              | (go_at_call 54; ((with_reducible refine (htx1 v3 _ (at_rdr HR.out _ _ _ _) (at_rb HR.out HV.out HB3.out _ _ _)).mono ?_); rintro x w1 ⟨rfl, v4, hb4, m4, rfl⟩; have HB4 := Lib.hid (keep_trans HB3.out hb4); clear hb4))
              | (go_at_call 133; ((with_reducible refine (err_any p v4 _ _ (at_rdr HR.out _ _ _ _)).mono ?_); rintro e w1 ⟨rfl, rfl⟩))
              | (go_at_call 233; ((with_reducible refine (hck _).mono ?_); rintro e w1 ⟨rfl, x1, n1, rfl⟩)))
          all_goals refine bodyPost_ret (v := .tuple #[.agg #[.int .i64 d, .int .i64 t, .bool true, .string (str k3), .bool true, .string ⟨#[]⟩], .int .i64 0]) (by simp [results, Tryz.results138, go_sem]) rfl (recgot _ _ HX.out rfl HB4.out)
        · have HX := Lib.hid (recend_form HG1.out hE (.inr (by rw [hC]; exact hc0)))
          have hne : (C == 0) = false := by rw [beq_eq_false_iff_ne]; exact hc0
          subst hE
          clear HG1 hC
          refine calls_wd ?_
          go_enter Tryz.func138, Tryz.ntmps138
          go_wp2_with (first
              | (go_at_call 49; ((with_reducible refine (hfix _ (HR.out.more (more_wd _ _ _)) (HV.out.more (more_wd _ _ _))).mono ?_); rintro x w1 ⟨rfl, v1, hb1, m1, rfl⟩; have HB1 := Lib.hid hb1; clear hb1))
              | (go_at_call 50; ((with_reducible refine (hnum1 v1 _ (at_rdr HR.out _ _ _ _) (at_rb HR.out HV.out HB1.out _ _ _)).mono ?_); rintro x w1 ⟨rfl, v2, hb2, m2, rfl⟩; have HB2 := Lib.hid (keep_trans HB1.out hb2); clear hb2))
              | (go_at_call 50; ((with_reducible refine (hnum2 v2 _ (at_rdr HR.out _ _ _ _) (at_rb HR.out HV.out HB2.out _ _ _)).mono ?_); rintro x w1 ⟨rfl, v3, hb3, m3, rfl⟩; have HB3 := Lib.hid (keep_trans HB2.out hb3); clear hb3))
              | (go_at_call 54; ((with_reducible refine (htx1 v3 _ (at_rdr HR.out _ _ _ _) (at_rb HR.out HV.out HB3.out _ _ _)).mono ?_); rintro x w1 ⟨rfl, v4, hb4, m4, rfl⟩; have HB4 := Lib.hid (keep_trans HB3.out hb4); clear hb4))
              | (go_at_call 133; ((with_reducible refine (err_any p v4 _ _ (at_rdr HR.out _ _ _ _)).mono ?_); rintro e w1 ⟨rfl, rfl⟩))
              | (go_at_call 233; ((with_reducible refine (hck _).mono ?_); rintro e w1 ⟨rfl, x1, n1, rfl⟩)))
          all_goals refine bodyPost_ret (v := .tuple #[.agg #[.int .i64 0, .int .i64 0, .bool false, .string ⟨#[]⟩, .bool false, .string ⟨#[]⟩], .int .i64 4]) (by simp [results, Tryz.results138, go_sem]) rfl (recgot _ _ HX.out rfl HB4.out)
    · have HX := Lib.hid (recend_err HG1.out hE)
      have hne : (k2 == 0) = false := by rw [beq_eq_false_iff_ne]; exact hE
      clear HG1 hck
      refine calls_wd ?_
      go_enter Tryz.func138, Tryz.ntmps138
      go_wp2_with (first
          | (go_at_call 49; ((with_reducible refine (hfix _ (HR.out.more (more_wd _ _ _)) (HV.out.more (more_wd _ _ _))).mono ?_); rintro x w1 ⟨rfl, v1, hb1, m1, rfl⟩; have HB1 := Lib.hid hb1; clear hb1))
          | (go_at_call 50; ((with_reducible refine (hnum1 v1 _ (at_rdr HR.out _ _ _ _) (at_rb HR.out HV.out HB1.out _ _ _)).mono ?_); rintro x w1 ⟨rfl, v2, hb2, m2, rfl⟩; have HB2 := Lib.hid (keep_trans HB1.out hb2); clear hb2))
          | (go_at_call 50; ((with_reducible refine (hnum2 v2 _ (at_rdr HR.out _ _ _ _) (at_rb HR.out HV.out HB2.out _ _ _)).mono ?_); rintro x w1 ⟨rfl, v3, hb3, m3, rfl⟩; have HB3 := Lib.hid (keep_trans HB2.out hb3); clear hb3))
          | (go_at_call 54; ((with_reducible refine (htx1 v3 _ (at_rdr HR.out _ _ _ _) (at_rb HR.out HV.out HB3.out _ _ _)).mono ?_); rintro x w1 ⟨rfl, v4, hb4, m4, rfl⟩; have HB4 := Lib.hid (keep_trans HB3.out hb4); clear hb4))
          | (go_at_call 133; ((with_reducible refine (err_any p v4 _ _ (at_rdr HR.out _ _ _ _)).mono ?_); rintro e w1 ⟨rfl, rfl⟩))
          | (go_at_call 233; ((with_reducible refine (hck _).mono ?_); rintro e w1 ⟨rfl, x1, n1, rfl⟩)))
      refine bodyPost_ret (v := .tuple #[.agg #[.int .i64 0, .int .i64 0, .bool false, .string ⟨#[]⟩, .bool false, .string ⟨#[]⟩], .int .i64 k2]) (by simp [results, Tryz.results138, go_sem]) rfl (recgot _ _ HX.out rfl HB4.out)
  · -- keyed 1 dead 0
    rw [if_pos h1] at a1
    rw [if_neg h2] at a2
    have htx1 := fun (v1 : Value) (W : World) (hr : Rdr W p v1 e3) (h : RB W v1 l3) => txt_any p v1 l3 e3 64 (by decide) W hr h
    have HG1 := Lib.hid (HG.out (txt l3 e3 64) _ (by rw [if_pos h1]) rfl)
    rw [if_neg h2] at HG1
    clear HG
    simp only [h1, h2, decide_true, decide_false] at HG1
    generalize txt l3 e3 64 = T at htx1 HG1
    obtain ⟨k1, k2, k3⟩ := T
    dsimp only at htx1 HG1
    have htx2 := fun (v1 : Value) (W : World) (hr : Rdr W p v1 k2) (h : RB W v1 k1) => txt_any p v1 k1 k2 512 (by decide) W hr h
    generalize txt k1 k2 512 = T at htx2 HG1
    obtain ⟨j1, j2, j3⟩ := T
    dsimp only at htx2 HG1
    have hck := fun W => rcheck_x d t true false k3 j3 W
    by_cases hE : j2 = 0
    · by_cases h4 : 4 ≤ (n : Int)
      · have HX := Lib.hid (recend_form HG1.out hE (.inl (by omega)))
        subst hE
        clear HG1 hck
        refine calls_wd ?_
        go_enter Tryz.func138, Tryz.ntmps138
        go_wp2_with (first
            | (go_at_call 49; ((with_reducible refine (hfix _ (HR.out.more (more_wd _ _ _)) (HV.out.more (more_wd _ _ _))).mono ?_); rintro x w1 ⟨rfl, v1, hb1, m1, rfl⟩; have HB1 := Lib.hid hb1; clear hb1))
            | (go_at_call 50; ((with_reducible refine (hnum1 v1 _ (at_rdr HR.out _ _ _ _) (at_rb HR.out HV.out HB1.out _ _ _)).mono ?_); rintro x w1 ⟨rfl, v2, hb2, m2, rfl⟩; have HB2 := Lib.hid (keep_trans HB1.out hb2); clear hb2))
            | (go_at_call 50; ((with_reducible refine (hnum2 v2 _ (at_rdr HR.out _ _ _ _) (at_rb HR.out HV.out HB2.out _ _ _)).mono ?_); rintro x w1 ⟨rfl, v3, hb3, m3, rfl⟩; have HB3 := Lib.hid (keep_trans HB2.out hb3); clear hb3))
            | (go_at_call 54; ((with_reducible refine (htx1 v3 _ (at_rdr HR.out _ _ _ _) (at_rb HR.out HV.out HB3.out _ _ _)).mono ?_); rintro x w1 ⟨rfl, v4, hb4, m4, rfl⟩; have HB4 := Lib.hid (keep_trans HB3.out hb4); clear hb4))
            | (go_at_call 54; ((with_reducible refine (htx2 v4 _ (at_rdr HR.out _ _ _ _) (at_rb HR.out HV.out HB4.out _ _ _)).mono ?_); rintro x w1 ⟨rfl, v5, hb5, m5, rfl⟩; have HB5 := Lib.hid (keep_trans HB4.out hb5); clear hb5))
            | (go_at_call 133; ((with_reducible refine (err_any p v5 _ _ (at_rdr HR.out _ _ _ _)).mono ?_); rintro e w1 ⟨rfl, rfl⟩))
            | (go_at_call 233; ((with_reducible refine (hck _).mono ?_); rintro e w1 ⟨rfl, x1, n1, rfl⟩)))
        refine bodyPost_ret (v := .tuple #[.agg #[.int .i64 0, .int .i64 0, .bool false, .string ⟨#[]⟩, .bool false, .string ⟨#[]⟩], .int .i64 4]) (by simp [results, Tryz.results138, go_sem]) rfl (recgot _ _ HX.out rfl HB5.out)
      · have hd4 : decide (4 ≤ (n : Int)) = false := by simpa using h4
        generalize hC : recCheck ⟨d, t, true, k3, false, j3⟩ = C at hck
        by_cases hc0 : C = 0
        · have HX := Lib.hid (recend_ok HG1.out hE (by omega) (hC.trans hc0))
          subst hE hc0
          clear HG1 hC
          refine calls_wd ?_
          go_enter Tryz.func138, Tryz.ntmps138
          go_wp2_with (first
              | (go_at_call 49; ((with_reducible refine (hfix _ (HR.out.more (more_wd _ _ _)) (HV.out.more (more_wd _ _ _))).mono ?_); rintro x w1 ⟨rfl, v1, hb1, m1, rfl⟩; have HB1 := Lib.hid hb1; clear hb1))
              | (go_at_call 50; ((with_reducible refine (hnum1 v1 _ (at_rdr HR.out _ _ _ _) (at_rb HR.out HV.out HB1.out _ _ _)).mono ?_); rintro x w1 ⟨rfl, v2, hb2, m2, rfl⟩; have HB2 := Lib.hid (keep_trans HB1.out hb2); clear hb2))
              | (go_at_call 50; ((with_reducible refine (hnum2 v2 _ (at_rdr HR.out _ _ _ _) (at_rb HR.out HV.out HB2.out _ _ _)).mono ?_); rintro x w1 ⟨rfl, v3, hb3, m3, rfl⟩; have HB3 := Lib.hid (keep_trans HB2.out hb3); clear hb3))
              | (go_at_call 54; ((with_reducible refine (htx1 v3 _ (at_rdr HR.out _ _ _ _) (at_rb HR.out HV.out HB3.out _ _ _)).mono ?_); rintro x w1 ⟨rfl, v4, hb4, m4, rfl⟩; have HB4 := Lib.hid (keep_trans HB3.out hb4); clear hb4))
              | (go_at_call 54; ((with_reducible refine (htx2 v4 _ (at_rdr HR.out _ _ _ _) (at_rb HR.out HV.out HB4.out _ _ _)).mono ?_); rintro x w1 ⟨rfl, v5, hb5, m5, rfl⟩; have HB5 := Lib.hid (keep_trans HB4.out hb5); clear hb5))
              | (go_at_call 133; ((with_reducible refine (err_any p v5 _ _ (at_rdr HR.out _ _ _ _)).mono ?_); rintro e w1 ⟨rfl, rfl⟩))
              | (go_at_call 233; ((with_reducible refine (hck _).mono ?_); rintro e w1 ⟨rfl, x1, n1, rfl⟩)))
          all_goals refine bodyPost_ret (v := .tuple #[.agg #[.int .i64 d, .int .i64 t, .bool true, .string (str k3), .bool false, .string (str j3)], .int .i64 0]) (by simp [results, Tryz.results138, go_sem]) rfl (recgot _ _ HX.out rfl HB5.out)
        · have HX := Lib.hid (recend_form HG1.out hE (.inr (by rw [hC]; exact hc0)))
          have hne : (C == 0) = false := by rw [beq_eq_false_iff_ne]; exact hc0
          subst hE
          clear HG1 hC
          refine calls_wd ?_
          go_enter Tryz.func138, Tryz.ntmps138
          go_wp2_with (first
              | (go_at_call 49; ((with_reducible refine (hfix _ (HR.out.more (more_wd _ _ _)) (HV.out.more (more_wd _ _ _))).mono ?_); rintro x w1 ⟨rfl, v1, hb1, m1, rfl⟩; have HB1 := Lib.hid hb1; clear hb1))
              | (go_at_call 50; ((with_reducible refine (hnum1 v1 _ (at_rdr HR.out _ _ _ _) (at_rb HR.out HV.out HB1.out _ _ _)).mono ?_); rintro x w1 ⟨rfl, v2, hb2, m2, rfl⟩; have HB2 := Lib.hid (keep_trans HB1.out hb2); clear hb2))
              | (go_at_call 50; ((with_reducible refine (hnum2 v2 _ (at_rdr HR.out _ _ _ _) (at_rb HR.out HV.out HB2.out _ _ _)).mono ?_); rintro x w1 ⟨rfl, v3, hb3, m3, rfl⟩; have HB3 := Lib.hid (keep_trans HB2.out hb3); clear hb3))
              | (go_at_call 54; ((with_reducible refine (htx1 v3 _ (at_rdr HR.out _ _ _ _) (at_rb HR.out HV.out HB3.out _ _ _)).mono ?_); rintro x w1 ⟨rfl, v4, hb4, m4, rfl⟩; have HB4 := Lib.hid (keep_trans HB3.out hb4); clear hb4))
              | (go_at_call 54; ((with_reducible refine (htx2 v4 _ (at_rdr HR.out _ _ _ _) (at_rb HR.out HV.out HB4.out _ _ _)).mono ?_); rintro x w1 ⟨rfl, v5, hb5, m5, rfl⟩; have HB5 := Lib.hid (keep_trans HB4.out hb5); clear hb5))
              | (go_at_call 133; ((with_reducible refine (err_any p v5 _ _ (at_rdr HR.out _ _ _ _)).mono ?_); rintro e w1 ⟨rfl, rfl⟩))
              | (go_at_call 233; ((with_reducible refine (hck _).mono ?_); rintro e w1 ⟨rfl, x1, n1, rfl⟩)))
          all_goals refine bodyPost_ret (v := .tuple #[.agg #[.int .i64 0, .int .i64 0, .bool false, .string ⟨#[]⟩, .bool false, .string ⟨#[]⟩], .int .i64 4]) (by simp [results, Tryz.results138, go_sem]) rfl (recgot _ _ HX.out rfl HB5.out)
    · have HX := Lib.hid (recend_err HG1.out hE)
      have hne : (j2 == 0) = false := by rw [beq_eq_false_iff_ne]; exact hE
      clear HG1 hck
      refine calls_wd ?_
      go_enter Tryz.func138, Tryz.ntmps138
      go_wp2_with (first
          | (go_at_call 49; ((with_reducible refine (hfix _ (HR.out.more (more_wd _ _ _)) (HV.out.more (more_wd _ _ _))).mono ?_); rintro x w1 ⟨rfl, v1, hb1, m1, rfl⟩; have HB1 := Lib.hid hb1; clear hb1))
          | (go_at_call 50; ((with_reducible refine (hnum1 v1 _ (at_rdr HR.out _ _ _ _) (at_rb HR.out HV.out HB1.out _ _ _)).mono ?_); rintro x w1 ⟨rfl, v2, hb2, m2, rfl⟩; have HB2 := Lib.hid (keep_trans HB1.out hb2); clear hb2))
          | (go_at_call 50; ((with_reducible refine (hnum2 v2 _ (at_rdr HR.out _ _ _ _) (at_rb HR.out HV.out HB2.out _ _ _)).mono ?_); rintro x w1 ⟨rfl, v3, hb3, m3, rfl⟩; have HB3 := Lib.hid (keep_trans HB2.out hb3); clear hb3))
          | (go_at_call 54; ((with_reducible refine (htx1 v3 _ (at_rdr HR.out _ _ _ _) (at_rb HR.out HV.out HB3.out _ _ _)).mono ?_); rintro x w1 ⟨rfl, v4, hb4, m4, rfl⟩; have HB4 := Lib.hid (keep_trans HB3.out hb4); clear hb4))
          | (go_at_call 54; ((with_reducible refine (htx2 v4 _ (at_rdr HR.out _ _ _ _) (at_rb HR.out HV.out HB4.out _ _ _)).mono ?_); rintro x w1 ⟨rfl, v5, hb5, m5, rfl⟩; have HB5 := Lib.hid (keep_trans HB4.out hb5); clear hb5))
          | (go_at_call 133; ((with_reducible refine (err_any p v5 _ _ (at_rdr HR.out _ _ _ _)).mono ?_); rintro e w1 ⟨rfl, rfl⟩))
          | (go_at_call 233; ((with_reducible refine (hck _).mono ?_); rintro e w1 ⟨rfl, x1, n1, rfl⟩)))
      refine bodyPost_ret (v := .tuple #[.agg #[.int .i64 0, .int .i64 0, .bool false, .string ⟨#[]⟩, .bool false, .string ⟨#[]⟩], .int .i64 j2]) (by simp [results, Tryz.results138, go_sem]) rfl (recgot _ _ HX.out rfl HB5.out)
  · -- keyed 0 dead 1
    rw [if_neg h1] at a1
    rw [if_pos h2] at a2
    have HG1 := Lib.hid (HG.out (l3, e3, []) _ (by rw [if_neg h1]) rfl)
    rw [if_pos h2] at HG1
    clear HG
    simp only [h1, h2, decide_true, decide_false] at HG1
    have hck := fun W => rcheck_x d t false true [] [] W
    simp only [show str [] = ⟨#[]⟩ from rfl] at hck
    by_cases hE : e3 = 0
    · by_cases h4 : 4 ≤ (n : Int)
      · have HX := Lib.hid (recend_form HG1.out hE (.inl (by omega)))
        subst hE
        clear HG1 hck
        refine calls_wd ?_
        go_enter Tryz.func138, Tryz.ntmps138
        go_wp2_with (first
            | (go_at_call 49; ((with_reducible refine (hfix _ (HR.out.more (more_wd _ _ _)) (HV.out.more (more_wd _ _ _))).mono ?_); rintro x w1 ⟨rfl, v1, hb1, m1, rfl⟩; have HB1 := Lib.hid hb1; clear hb1))
            | (go_at_call 50; ((with_reducible refine (hnum1 v1 _ (at_rdr HR.out _ _ _ _) (at_rb HR.out HV.out HB1.out _ _ _)).mono ?_); rintro x w1 ⟨rfl, v2, hb2, m2, rfl⟩; have HB2 := Lib.hid (keep_trans HB1.out hb2); clear hb2))
            | (go_at_call 50; ((with_reducible refine (hnum2 v2 _ (at_rdr HR.out _ _ _ _) (at_rb HR.out HV.out HB2.out _ _ _)).mono ?_); rintro x w1 ⟨rfl, v3, hb3, m3, rfl⟩; have HB3 := Lib.hid (keep_trans HB2.out hb3); clear hb3))
            | (go_at_call 133; ((with_reducible refine (err_any p v3 _ _ (at_rdr HR.out _ _ _ _)).mono ?_); rintro e w1 ⟨rfl, rfl⟩))
            | (go_at_call 233; ((with_reducible refine (hck _).mono ?_); rintro e w1 ⟨rfl, x1, n1, rfl⟩)))
        refine bodyPost_ret (v := .tuple #[.agg #[.int .i64 0, .int .i64 0, .bool false, .string ⟨#[]⟩, .bool false, .string ⟨#[]⟩], .int .i64 4]) (by simp [results, Tryz.results138, go_sem]) rfl (recgot _ _ HX.out rfl HB3.out)
      · have hd4 : decide (4 ≤ (n : Int)) = false := by simpa using h4
        generalize hC : recCheck ⟨d, t, false, [], true, []⟩ = C at hck
        by_cases hc0 : C = 0
        · have HX := Lib.hid (recend_ok HG1.out hE (by omega) (hC.trans hc0))
          subst hE hc0
          clear HG1 hC
          refine calls_wd ?_
          go_enter Tryz.func138, Tryz.ntmps138
          go_wp2_with (first
              | (go_at_call 49; ((with_reducible refine (hfix _ (HR.out.more (more_wd _ _ _)) (HV.out.more (more_wd _ _ _))).mono ?_); rintro x w1 ⟨rfl, v1, hb1, m1, rfl⟩; have HB1 := Lib.hid hb1; clear hb1))
              | (go_at_call 50; ((with_reducible refine (hnum1 v1 _ (at_rdr HR.out _ _ _ _) (at_rb HR.out HV.out HB1.out _ _ _)).mono ?_); rintro x w1 ⟨rfl, v2, hb2, m2, rfl⟩; have HB2 := Lib.hid (keep_trans HB1.out hb2); clear hb2))
              | (go_at_call 50; ((with_reducible refine (hnum2 v2 _ (at_rdr HR.out _ _ _ _) (at_rb HR.out HV.out HB2.out _ _ _)).mono ?_); rintro x w1 ⟨rfl, v3, hb3, m3, rfl⟩; have HB3 := Lib.hid (keep_trans HB2.out hb3); clear hb3))
              | (go_at_call 133; ((with_reducible refine (err_any p v3 _ _ (at_rdr HR.out _ _ _ _)).mono ?_); rintro e w1 ⟨rfl, rfl⟩))
              | (go_at_call 233; ((with_reducible refine (hck _).mono ?_); rintro e w1 ⟨rfl, x1, n1, rfl⟩)))
          all_goals refine bodyPost_ret (v := .tuple #[.agg #[.int .i64 d, .int .i64 t, .bool false, .string ⟨#[]⟩, .bool true, .string ⟨#[]⟩], .int .i64 0]) (by simp [results, Tryz.results138, go_sem]) rfl (recgot _ _ HX.out rfl HB3.out)
        · have HX := Lib.hid (recend_form HG1.out hE (.inr (by rw [hC]; exact hc0)))
          have hne : (C == 0) = false := by rw [beq_eq_false_iff_ne]; exact hc0
          subst hE
          clear HG1 hC
          refine calls_wd ?_
          go_enter Tryz.func138, Tryz.ntmps138
          go_wp2_with (first
              | (go_at_call 49; ((with_reducible refine (hfix _ (HR.out.more (more_wd _ _ _)) (HV.out.more (more_wd _ _ _))).mono ?_); rintro x w1 ⟨rfl, v1, hb1, m1, rfl⟩; have HB1 := Lib.hid hb1; clear hb1))
              | (go_at_call 50; ((with_reducible refine (hnum1 v1 _ (at_rdr HR.out _ _ _ _) (at_rb HR.out HV.out HB1.out _ _ _)).mono ?_); rintro x w1 ⟨rfl, v2, hb2, m2, rfl⟩; have HB2 := Lib.hid (keep_trans HB1.out hb2); clear hb2))
              | (go_at_call 50; ((with_reducible refine (hnum2 v2 _ (at_rdr HR.out _ _ _ _) (at_rb HR.out HV.out HB2.out _ _ _)).mono ?_); rintro x w1 ⟨rfl, v3, hb3, m3, rfl⟩; have HB3 := Lib.hid (keep_trans HB2.out hb3); clear hb3))
              | (go_at_call 133; ((with_reducible refine (err_any p v3 _ _ (at_rdr HR.out _ _ _ _)).mono ?_); rintro e w1 ⟨rfl, rfl⟩))
              | (go_at_call 233; ((with_reducible refine (hck _).mono ?_); rintro e w1 ⟨rfl, x1, n1, rfl⟩)))
          all_goals refine bodyPost_ret (v := .tuple #[.agg #[.int .i64 0, .int .i64 0, .bool false, .string ⟨#[]⟩, .bool false, .string ⟨#[]⟩], .int .i64 4]) (by simp [results, Tryz.results138, go_sem]) rfl (recgot _ _ HX.out rfl HB3.out)
    · have HX := Lib.hid (recend_err HG1.out hE)
      have hne : (e3 == 0) = false := by rw [beq_eq_false_iff_ne]; exact hE
      clear HG1 hck
      refine calls_wd ?_
      go_enter Tryz.func138, Tryz.ntmps138
      go_wp2_with (first
          | (go_at_call 49; ((with_reducible refine (hfix _ (HR.out.more (more_wd _ _ _)) (HV.out.more (more_wd _ _ _))).mono ?_); rintro x w1 ⟨rfl, v1, hb1, m1, rfl⟩; have HB1 := Lib.hid hb1; clear hb1))
          | (go_at_call 50; ((with_reducible refine (hnum1 v1 _ (at_rdr HR.out _ _ _ _) (at_rb HR.out HV.out HB1.out _ _ _)).mono ?_); rintro x w1 ⟨rfl, v2, hb2, m2, rfl⟩; have HB2 := Lib.hid (keep_trans HB1.out hb2); clear hb2))
          | (go_at_call 50; ((with_reducible refine (hnum2 v2 _ (at_rdr HR.out _ _ _ _) (at_rb HR.out HV.out HB2.out _ _ _)).mono ?_); rintro x w1 ⟨rfl, v3, hb3, m3, rfl⟩; have HB3 := Lib.hid (keep_trans HB2.out hb3); clear hb3))
          | (go_at_call 133; ((with_reducible refine (err_any p v3 _ _ (at_rdr HR.out _ _ _ _)).mono ?_); rintro e w1 ⟨rfl, rfl⟩))
          | (go_at_call 233; ((with_reducible refine (hck _).mono ?_); rintro e w1 ⟨rfl, x1, n1, rfl⟩)))
      refine bodyPost_ret (v := .tuple #[.agg #[.int .i64 0, .int .i64 0, .bool false, .string ⟨#[]⟩, .bool false, .string ⟨#[]⟩], .int .i64 e3]) (by simp [results, Tryz.results138, go_sem]) rfl (recgot _ _ HX.out rfl HB3.out)
  · -- keyed 0 dead 0
    rw [if_neg h1] at a1
    rw [if_neg h2] at a2
    have HG1 := Lib.hid (HG.out (l3, e3, []) _ (by rw [if_neg h1]) rfl)
    rw [if_neg h2] at HG1
    clear HG
    simp only [h1, h2, decide_true, decide_false] at HG1
    have htx2 := fun (v1 : Value) (W : World) (hr : Rdr W p v1 e3) (h : RB W v1 l3) => txt_any p v1 l3 e3 512 (by decide) W hr h
    generalize txt l3 e3 512 = T at htx2 HG1
    obtain ⟨j1, j2, j3⟩ := T
    dsimp only at htx2 HG1
    have hck := fun W => rcheck_x d t false false [] j3 W
    simp only [show str [] = ⟨#[]⟩ from rfl] at hck
    by_cases hE : j2 = 0
    · by_cases h4 : 4 ≤ (n : Int)
      · have HX := Lib.hid (recend_form HG1.out hE (.inl (by omega)))
        subst hE
        clear HG1 hck
        refine calls_wd ?_
        go_enter Tryz.func138, Tryz.ntmps138
        go_wp2_with (first
            | (go_at_call 49; ((with_reducible refine (hfix _ (HR.out.more (more_wd _ _ _)) (HV.out.more (more_wd _ _ _))).mono ?_); rintro x w1 ⟨rfl, v1, hb1, m1, rfl⟩; have HB1 := Lib.hid hb1; clear hb1))
            | (go_at_call 50; ((with_reducible refine (hnum1 v1 _ (at_rdr HR.out _ _ _ _) (at_rb HR.out HV.out HB1.out _ _ _)).mono ?_); rintro x w1 ⟨rfl, v2, hb2, m2, rfl⟩; have HB2 := Lib.hid (keep_trans HB1.out hb2); clear hb2))
            | (go_at_call 50; ((with_reducible refine (hnum2 v2 _ (at_rdr HR.out _ _ _ _) (at_rb HR.out HV.out HB2.out _ _ _)).mono ?_); rintro x w1 ⟨rfl, v3, hb3, m3, rfl⟩; have HB3 := Lib.hid (keep_trans HB2.out hb3); clear hb3))
            | (go_at_call 54; ((with_reducible refine (htx2 v3 _ (at_rdr HR.out _ _ _ _) (at_rb HR.out HV.out HB3.out _ _ _)).mono ?_); rintro x w1 ⟨rfl, v5, hb5, m5, rfl⟩; have HB5 := Lib.hid (keep_trans HB3.out hb5); clear hb5))
            | (go_at_call 133; ((with_reducible refine (err_any p v5 _ _ (at_rdr HR.out _ _ _ _)).mono ?_); rintro e w1 ⟨rfl, rfl⟩))
            | (go_at_call 233; ((with_reducible refine (hck _).mono ?_); rintro e w1 ⟨rfl, x1, n1, rfl⟩)))
        refine bodyPost_ret (v := .tuple #[.agg #[.int .i64 0, .int .i64 0, .bool false, .string ⟨#[]⟩, .bool false, .string ⟨#[]⟩], .int .i64 4]) (by simp [results, Tryz.results138, go_sem]) rfl (recgot _ _ HX.out rfl HB5.out)
      · have hd4 : decide (4 ≤ (n : Int)) = false := by simpa using h4
        generalize hC : recCheck ⟨d, t, false, [], false, j3⟩ = C at hck
        by_cases hc0 : C = 0
        · have HX := Lib.hid (recend_ok HG1.out hE (by omega) (hC.trans hc0))
          subst hE hc0
          clear HG1 hC
          refine calls_wd ?_
          go_enter Tryz.func138, Tryz.ntmps138
          go_wp2_with (first
              | (go_at_call 49; ((with_reducible refine (hfix _ (HR.out.more (more_wd _ _ _)) (HV.out.more (more_wd _ _ _))).mono ?_); rintro x w1 ⟨rfl, v1, hb1, m1, rfl⟩; have HB1 := Lib.hid hb1; clear hb1))
              | (go_at_call 50; ((with_reducible refine (hnum1 v1 _ (at_rdr HR.out _ _ _ _) (at_rb HR.out HV.out HB1.out _ _ _)).mono ?_); rintro x w1 ⟨rfl, v2, hb2, m2, rfl⟩; have HB2 := Lib.hid (keep_trans HB1.out hb2); clear hb2))
              | (go_at_call 50; ((with_reducible refine (hnum2 v2 _ (at_rdr HR.out _ _ _ _) (at_rb HR.out HV.out HB2.out _ _ _)).mono ?_); rintro x w1 ⟨rfl, v3, hb3, m3, rfl⟩; have HB3 := Lib.hid (keep_trans HB2.out hb3); clear hb3))
              | (go_at_call 54; ((with_reducible refine (htx2 v3 _ (at_rdr HR.out _ _ _ _) (at_rb HR.out HV.out HB3.out _ _ _)).mono ?_); rintro x w1 ⟨rfl, v5, hb5, m5, rfl⟩; have HB5 := Lib.hid (keep_trans HB3.out hb5); clear hb5))
              | (go_at_call 133; ((with_reducible refine (err_any p v5 _ _ (at_rdr HR.out _ _ _ _)).mono ?_); rintro e w1 ⟨rfl, rfl⟩))
              | (go_at_call 233; ((with_reducible refine (hck _).mono ?_); rintro e w1 ⟨rfl, x1, n1, rfl⟩)))
          all_goals refine bodyPost_ret (v := .tuple #[.agg #[.int .i64 d, .int .i64 t, .bool false, .string ⟨#[]⟩, .bool false, .string (str j3)], .int .i64 0]) (by simp [results, Tryz.results138, go_sem]) rfl (recgot _ _ HX.out rfl HB5.out)
        · have HX := Lib.hid (recend_form HG1.out hE (.inr (by rw [hC]; exact hc0)))
          have hne : (C == 0) = false := by rw [beq_eq_false_iff_ne]; exact hc0
          subst hE
          clear HG1 hC
          refine calls_wd ?_
          go_enter Tryz.func138, Tryz.ntmps138
          go_wp2_with (first
              | (go_at_call 49; ((with_reducible refine (hfix _ (HR.out.more (more_wd _ _ _)) (HV.out.more (more_wd _ _ _))).mono ?_); rintro x w1 ⟨rfl, v1, hb1, m1, rfl⟩; have HB1 := Lib.hid hb1; clear hb1))
              | (go_at_call 50; ((with_reducible refine (hnum1 v1 _ (at_rdr HR.out _ _ _ _) (at_rb HR.out HV.out HB1.out _ _ _)).mono ?_); rintro x w1 ⟨rfl, v2, hb2, m2, rfl⟩; have HB2 := Lib.hid (keep_trans HB1.out hb2); clear hb2))
              | (go_at_call 50; ((with_reducible refine (hnum2 v2 _ (at_rdr HR.out _ _ _ _) (at_rb HR.out HV.out HB2.out _ _ _)).mono ?_); rintro x w1 ⟨rfl, v3, hb3, m3, rfl⟩; have HB3 := Lib.hid (keep_trans HB2.out hb3); clear hb3))
              | (go_at_call 54; ((with_reducible refine (htx2 v3 _ (at_rdr HR.out _ _ _ _) (at_rb HR.out HV.out HB3.out _ _ _)).mono ?_); rintro x w1 ⟨rfl, v5, hb5, m5, rfl⟩; have HB5 := Lib.hid (keep_trans HB3.out hb5); clear hb5))
              | (go_at_call 133; ((with_reducible refine (err_any p v5 _ _ (at_rdr HR.out _ _ _ _)).mono ?_); rintro e w1 ⟨rfl, rfl⟩))
              | (go_at_call 233; ((with_reducible refine (hck _).mono ?_); rintro e w1 ⟨rfl, x1, n1, rfl⟩)))
          all_goals refine bodyPost_ret (v := .tuple #[.agg #[.int .i64 0, .int .i64 0, .bool false, .string ⟨#[]⟩, .bool false, .string ⟨#[]⟩], .int .i64 4]) (by simp [results, Tryz.results138, go_sem]) rfl (recgot _ _ HX.out rfl HB5.out)
    · have HX := Lib.hid (recend_err HG1.out hE)
      have hne : (j2 == 0) = false := by rw [beq_eq_false_iff_ne]; exact hE
      clear HG1 hck
      refine calls_wd ?_
      go_enter Tryz.func138, Tryz.ntmps138
      go_wp2_with (first
          | (go_at_call 49; ((with_reducible refine (hfix _ (HR.out.more (more_wd _ _ _)) (HV.out.more (more_wd _ _ _))).mono ?_); rintro x w1 ⟨rfl, v1, hb1, m1, rfl⟩; have HB1 := Lib.hid hb1; clear hb1))
          | (go_at_call 50; ((with_reducible refine (hnum1 v1 _ (at_rdr HR.out _ _ _ _) (at_rb HR.out HV.out HB1.out _ _ _)).mono ?_); rintro x w1 ⟨rfl, v2, hb2, m2, rfl⟩; have HB2 := Lib.hid (keep_trans HB1.out hb2); clear hb2))
          | (go_at_call 50; ((with_reducible refine (hnum2 v2 _ (at_rdr HR.out _ _ _ _) (at_rb HR.out HV.out HB2.out _ _ _)).mono ?_); rintro x w1 ⟨rfl, v3, hb3, m3, rfl⟩; have HB3 := Lib.hid (keep_trans HB2.out hb3); clear hb3))
          | (go_at_call 54; ((with_reducible refine (htx2 v3 _ (at_rdr HR.out _ _ _ _) (at_rb HR.out HV.out HB3.out _ _ _)).mono ?_); rintro x w1 ⟨rfl, v5, hb5, m5, rfl⟩; have HB5 := Lib.hid (keep_trans HB3.out hb5); clear hb5))
          | (go_at_call 133; ((with_reducible refine (err_any p v5 _ _ (at_rdr HR.out _ _ _ _)).mono ?_); rintro e w1 ⟨rfl, rfl⟩))
          | (go_at_call 233; ((with_reducible refine (hck _).mono ?_); rintro e w1 ⟨rfl, x1, n1, rfl⟩)))
      refine bodyPost_ret (v := .tuple #[.agg #[.int .i64 0, .int .i64 0, .bool false, .string ⟨#[]⟩, .bool false, .string ⟨#[]⟩], .int .i64 j2]) (by simp [results, Tryz.results138, go_sem]) rfl (recgot _ _ HX.out rfl HB5.out)
end Go.Proofs.YtmeflkagldebiaaGreat
