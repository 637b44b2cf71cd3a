/- console: produce (printed by gen/cpl.py). -/
import Derived.Test.YtifoekadjnlhcaaGreatDoorMN
import Derived.Test.YtifoekadjnlhcaaGreatDoorME
import Derived.Test.YtifoekadjnlhcaaGreatDoorMF
import Derived.Test.YtifoekadjnlhcaaGreatDoorMH
import Derived.Test.YtifoekadjnlhcaaGreatDoorMO
namespace Go.Proofs.YtifoekadjnlhcaaGreatDoor
open Go.ChangeShapes Go.WideShapes Go.ChangeAt Go.RowKit
set_option linter.unusedVariables false
set_option linter.unusedSimpArgs false
theorem recsW_snoc (tm : Int) : ∀ (ws : List Word) (i k : Nat) (s : Word), ws[k]? = some s → recsW tm i (ws.take (k + 1)) = recsW tm i (ws.take k) ++ [{ recW s with delta := ((i + k : Nat) : Int), time := tm }]
  | [], i, k, s, h => by cases h
  | x :: ws, i, 0, s, h => by cases h; rfl
  | x :: ws, i, k + 1, s, h => by
    have ih := recsW_snoc tm ws (i + 1) k s (by simpa using h)
    rw [List.take_succ_cons, List.take_succ_cons, recsW, recsW, ih]
    rw [show i + 1 + k = i + (k + 1) by omega]
    rfl
theorem recsW_len (tm : Int) : ∀ (ws : List Word) (i : Nat), (recsW tm i ws).length = ws.length
  | [], _ => rfl
  | x :: ws, i => by rw [recsW, List.length_cons, recsW_len tm ws (i + 1), List.length_cons]
theorem flat_recs (l : List Rec) (x : Rec) : (l ++ [x]).flatMap recCells = l.flatMap recCells ++ recCells x := by simp
theorem srd_nil (w : World) : SRd w (.slice none 0 0) [] := ⟨⟨none, 0, rfl, Nat.le_refl _, Nat.zero_le _, fun h => absurd rfl h⟩, fun s hs => by cases hs⟩
theorem wp_append_rowC (B : Nat) (D : List (Array Obj)) {P : Program} {ops : Array Oper} {rest : List Oper} {o : Oper} {a : Act} {Q : Exit → Act → World → Prop} (hgd : o.guard = none) (s x : Operand) (t : TypeId)
    (ho : o.op = .call { callee := .builtin .append, args := #[s, x], argTypes := #[t, t] })
    (e : TypeId) (i : TypeInfo) (z : Value) (size bytes : Nat) (ht : P.underlying t = some (.slice e)) (hi : P.info? e = some i) (hz : i.zero = some z)
    (hsize : i.size = size) (hby : i.bytes = bytes) (hzs : z.cells.size = size) (hsz : 0 < size)
    {w : World} (hB : w.heap.size = B) {L : List (Array Obj)} {n : Nat} {m : Array Obj} (v : Value) (k : Nat) (xs : List Value) (hs : a.eval s = v) (hrow : rowIn B (shape L) m e size v k xs)
    (C : Array Value) (t' : TypeId) (q c : Nat) (hx : a.eval x = .slice (some ⟨sz B (shape (D ++ m :: L)), 0, none⟩) q c) (hl : C.size = q * size) (h1 : ∀ u ∈ C.toList, u.oneCell' = true)
    (h63 : k + q ≤ maxLen) (hbytes : (k + q) * bytes ≤ 140737488355328)
    (h : ∀ (v' : Value) (m' : Ext), rowIn B (shape L) m'.e e size v' (k + q) (xs ++ C.toList) → wpList P ops Q rest (a.put o.dst v') (wd w (m'.e :: L) m'.n)) :
    wpList P ops Q (o :: rest) a (wd w (#[.cells C t'] :: (D ++ m :: L)) n) := by
  subst hB
  exact wp_append_rowD D hgd s x t ho e i z size bytes ht hi hz hsize hby hzs hsz v k xs hs hrow C t' q c hx hl h1 h63 hbytes h
structure ProdRet (w w' : World) (e : Ending) (p : Nat) (v : Value) (ws : List Word) : Prop where
  out : match prodW ws with
    | none => CNo w w' e p
    | some (q, r) => ∃ a cap, e = .returned (.agg (rq q a cap)) ∧ CTk w w' p v ws r ∧ RecsNew w.heap.size w' a cap q.batch.recs
theorem prodret_no {w w' : World} {e : Ending} {p : Nat} {v : Value} {ws : List Word} (h : prodW ws = none) (hc : CNo w w' e p) : ProdRet w w' e p v ws := ⟨by rw [h]; exact hc⟩
theorem prodret_yes {w w' : World} {e : Ending} {p : Nat} {v : Value} {ws r : List Word} {q : Req} {a : Option Addr} {cap : Nat} (h : prodW ws = some (q, r)) (he : e = .returned (.agg (rq q a cap))) (hc : CTk w w' p v ws r) (hr : RecsNew w.heap.size w' a cap q.batch.recs) : ProdRet w w' e p v ws := ⟨by rw [h]; exact ⟨a, cap, he, hc, hr⟩⟩
@[go_sem] theorem rq_set17z (x : Req) (a0 : Option Addr) (c0 : Nat) : (rq x a0 c0).setIfInBounds 17 (.slice none 0 0) = rq { x with batch := { x.batch with recs := [] } } none 0 := by unfold rq reqCells; rfl
@[go_sem] theorem cset_set (w : World) (p : Nat) (v v' : Value) : (cset w p v).setCell ⟨p, 0, none⟩ v' = cset w p v' := cset_cset w p v v'
set_option maxRecDepth 100000 in
set_option maxHeartbeats 6400000 in
theorem prod_any (p : Nat) (v : Value) (ws : List Word) (w : World) (h0 : CS w p v ws) : Calls Tryz.prog 75 #[.pointer (some ⟨p, 0, none⟩)] w fun e w' => ProdRet w w' e p v ws := by
  have hlt := h0.rd.lt
  have H0 := Lib.hid h0
  clear h0
  cases ws with
  | nil =>
    have HT : Hid (prodW [] = none) := Lib.hid (by simp only [prodW, tkT])
    refine calls_wd ?_
    go_enter Tryz.func75, Tryz.ntmps75
    go_wp2_with (first
      | (go_at_call 48; refine (t_none H0.out (fun W0 h => h) (first_more H0.out (more_wd _ _ _))).mono ?_; rintro e w1 hs; obtain ⟨v9, x9, k9, rfl, rfl⟩ := hs.out; clear hs))
    exact ⟨rfl, prodret_no HT.out (cno_of _ _ _ _)⟩
  | cons t0 r0 =>
    cases hq1 : tkN r0 with
    | none =>
      have HT : Hid (prodW (t0 :: r0) = none) := Lib.hid (by simp only [prodW, tkT, hq1])
      have HQ1 := Lib.hid hq1
      clear hq1
      refine calls_wd ?_
      go_enter Tryz.func75, Tryz.ntmps75
      go_wp2_with (first
        | (go_at_call 48; refine (t_step H0.out (fun W0 h => h) (first_more H0.out (more_wd _ _ _))).mono ?_; rintro e w1 ⟨rfl, v0, y0, j0, hk, rfl⟩; have HK0 := Lib.hid hk; clear hk)
        | (go_at_call 50; refine (n_none H0.out HQ1.out HK0.out (more_wd _ _ _)).mono ?_; rintro e w1 hs; obtain ⟨v9, x9, k9, rfl, rfl⟩ := hs.out; clear hs))
      exact ⟨rfl, prodret_no HT.out (cno_of _ _ _ _)⟩
    | some a =>
      obtain ⟨m1, r1⟩ := a
      cases hq2 : tkY r1 with
      | none =>
        have HT : Hid (prodW (t0 :: r0) = none) := Lib.hid (by simp only [prodW, tkT, hq1, hq2])
        have HQ1 := Lib.hid hq1
        have HQ2 := Lib.hid hq2
        clear hq1 hq2
        refine calls_wd ?_
        go_enter Tryz.func75, Tryz.ntmps75
        go_wp2_with (first
          | (go_at_call 48; refine (t_step H0.out (fun W0 h => h) (first_more H0.out (more_wd _ _ _))).mono ?_; rintro e w1 ⟨rfl, v0, y0, j0, hk, rfl⟩; have HK0 := Lib.hid hk; clear hk)
          | (go_at_call 50; refine (n_step H0.out HQ1.out HK0.out (more_wd _ _ _)).mono ?_; rintro e w1 ⟨rfl, v1, y1, j1, hk, rfl⟩; have HK1 := Lib.hid hk; clear hk)
          | (go_at_call 51; refine (y_none H0.out HQ2.out HK1.out (more_wd _ _ _)).mono ?_; rintro e w1 hs; obtain ⟨v9, x9, k9, rfl, rfl⟩ := hs.out; clear hs))
        exact ⟨rfl, prodret_no HT.out (cno_of _ _ _ _)⟩
      | some a =>
        obtain ⟨b2, r2⟩ := a
        cases hq3 : tkN r2 with
        | none =>
          have HT : Hid (prodW (t0 :: r0) = none) := Lib.hid (by simp only [prodW, tkT, hq1, hq2, hq3])
          have HQ1 := Lib.hid hq1
          have HQ2 := Lib.hid hq2
          have HQ3 := Lib.hid hq3
          clear hq1 hq2 hq3
          refine calls_wd ?_
          go_enter Tryz.func75, Tryz.ntmps75
          go_wp2_with (first
            | (go_at_call 48; refine (t_step H0.out (fun W0 h => h) (first_more H0.out (more_wd _ _ _))).mono ?_; rintro e w1 ⟨rfl, v0, y0, j0, hk, rfl⟩; have HK0 := Lib.hid hk; clear hk)
            | (go_at_call 50; refine (n_step H0.out HQ1.out HK0.out (more_wd _ _ _)).mono ?_; rintro e w1 ⟨rfl, v1, y1, j1, hk, rfl⟩; have HK1 := Lib.hid hk; clear hk)
            | (go_at_call 51; refine (y_step H0.out HQ2.out HK1.out (more_wd _ _ _)).mono ?_; rintro e w1 ⟨rfl, v2, y2, j2, hk, rfl⟩; have HK2 := Lib.hid hk; clear hk)
            | (go_at_call 50; refine (n_none H0.out HQ3.out HK2.out (more_wd _ _ _)).mono ?_; rintro e w1 hs; obtain ⟨v9, x9, k9, rfl, rfl⟩ := hs.out; clear hs))
          exact ⟨rfl, prodret_no HT.out (cno_of _ _ _ _)⟩
        | some a =>
          obtain ⟨m3, r3⟩ := a
          cases hq4 : tkN r3 with
          | none =>
            have HT : Hid (prodW (t0 :: r0) = none) := Lib.hid (by simp only [prodW, tkT, hq1, hq2, hq3, hq4])
            have HQ1 := Lib.hid hq1
            have HQ2 := Lib.hid hq2
            have HQ3 := Lib.hid hq3
            have HQ4 := Lib.hid hq4
            clear hq1 hq2 hq3 hq4
            refine calls_wd ?_
            go_enter Tryz.func75, Tryz.ntmps75
            go_wp2_with (first
              | (go_at_call 48; refine (t_step H0.out (fun W0 h => h) (first_more H0.out (more_wd _ _ _))).mono ?_; rintro e w1 ⟨rfl, v0, y0, j0, hk, rfl⟩; have HK0 := Lib.hid hk; clear hk)
              | (go_at_call 50; refine (n_step H0.out HQ1.out HK0.out (more_wd _ _ _)).mono ?_; rintro e w1 ⟨rfl, v1, y1, j1, hk, rfl⟩; have HK1 := Lib.hid hk; clear hk)
              | (go_at_call 51; refine (y_step H0.out HQ2.out HK1.out (more_wd _ _ _)).mono ?_; rintro e w1 ⟨rfl, v2, y2, j2, hk, rfl⟩; have HK2 := Lib.hid hk; clear hk)
              | (go_at_call 50; refine (n_step H0.out HQ3.out HK2.out (more_wd _ _ _)).mono ?_; rintro e w1 ⟨rfl, v3, y3, j3, hk, rfl⟩; have HK3 := Lib.hid hk; clear hk)
              | (go_at_call 50; refine (n_none H0.out HQ4.out HK3.out (more_wd _ _ _)).mono ?_; rintro e w1 hs; obtain ⟨v9, x9, k9, rfl, rfl⟩ := hs.out; clear hs))
            exact ⟨rfl, prodret_no HT.out (cno_of _ _ _ _)⟩
          | some a =>
            obtain ⟨m4, r4⟩ := a
            cases hq5 : tkN r4 with
            | none =>
              have HT : Hid (prodW (t0 :: r0) = none) := Lib.hid (by simp only [prodW, tkT, hq1, hq2, hq3, hq4, hq5])
              have HQ1 := Lib.hid hq1
              have HQ2 := Lib.hid hq2
              have HQ3 := Lib.hid hq3
              have HQ4 := Lib.hid hq4
              have HQ5 := Lib.hid hq5
              clear hq1 hq2 hq3 hq4 hq5
              refine calls_wd ?_
              go_enter Tryz.func75, Tryz.ntmps75
              go_wp2_with (first
                | (go_at_call 48; refine (t_step H0.out (fun W0 h => h) (first_more H0.out (more_wd _ _ _))).mono ?_; rintro e w1 ⟨rfl, v0, y0, j0, hk, rfl⟩; have HK0 := Lib.hid hk; clear hk)
                | (go_at_call 50; refine (n_step H0.out HQ1.out HK0.out (more_wd _ _ _)).mono ?_; rintro e w1 ⟨rfl, v1, y1, j1, hk, rfl⟩; have HK1 := Lib.hid hk; clear hk)
                | (go_at_call 51; refine (y_step H0.out HQ2.out HK1.out (more_wd _ _ _)).mono ?_; rintro e w1 ⟨rfl, v2, y2, j2, hk, rfl⟩; have HK2 := Lib.hid hk; clear hk)
                | (go_at_call 50; refine (n_step H0.out HQ3.out HK2.out (more_wd _ _ _)).mono ?_; rintro e w1 ⟨rfl, v3, y3, j3, hk, rfl⟩; have HK3 := Lib.hid hk; clear hk)
                | (go_at_call 50; refine (n_step H0.out HQ4.out HK3.out (more_wd _ _ _)).mono ?_; rintro e w1 ⟨rfl, v4, y4, j4, hk, rfl⟩; have HK4 := Lib.hid hk; clear hk)
                | (go_at_call 50; refine (n_none H0.out HQ5.out HK4.out (more_wd _ _ _)).mono ?_; rintro e w1 hs; obtain ⟨v9, x9, k9, rfl, rfl⟩ := hs.out; clear hs))
              exact ⟨rfl, prodret_no HT.out (cno_of _ _ _ _)⟩
            | some a =>
              obtain ⟨m5, r5⟩ := a
              cases hq6 : tkN r5 with
              | none =>
                have HT : Hid (prodW (t0 :: r0) = none) := Lib.hid (by simp only [prodW, tkT, hq1, hq2, hq3, hq4, hq5, hq6])
                have HQ1 := Lib.hid hq1
                have HQ2 := Lib.hid hq2
                have HQ3 := Lib.hid hq3
                have HQ4 := Lib.hid hq4
                have HQ5 := Lib.hid hq5
                have HQ6 := Lib.hid hq6
                clear hq1 hq2 hq3 hq4 hq5 hq6
                refine calls_wd ?_
                go_enter Tryz.func75, Tryz.ntmps75
                go_wp2_with (first
                  | (go_at_call 48; refine (t_step H0.out (fun W0 h => h) (first_more H0.out (more_wd _ _ _))).mono ?_; rintro e w1 ⟨rfl, v0, y0, j0, hk, rfl⟩; have HK0 := Lib.hid hk; clear hk)
                  | (go_at_call 50; refine (n_step H0.out HQ1.out HK0.out (more_wd _ _ _)).mono ?_; rintro e w1 ⟨rfl, v1, y1, j1, hk, rfl⟩; have HK1 := Lib.hid hk; clear hk)
                  | (go_at_call 51; refine (y_step H0.out HQ2.out HK1.out (more_wd _ _ _)).mono ?_; rintro e w1 ⟨rfl, v2, y2, j2, hk, rfl⟩; have HK2 := Lib.hid hk; clear hk)
                  | (go_at_call 50; refine (n_step H0.out HQ3.out HK2.out (more_wd _ _ _)).mono ?_; rintro e w1 ⟨rfl, v3, y3, j3, hk, rfl⟩; have HK3 := Lib.hid hk; clear hk)
                  | (go_at_call 50; refine (n_step H0.out HQ4.out HK3.out (more_wd _ _ _)).mono ?_; rintro e w1 ⟨rfl, v4, y4, j4, hk, rfl⟩; have HK4 := Lib.hid hk; clear hk)
                  | (go_at_call 50; refine (n_step H0.out HQ5.out HK4.out (more_wd _ _ _)).mono ?_; rintro e w1 ⟨rfl, v5, y5, j5, hk, rfl⟩; have HK5 := Lib.hid hk; clear hk)
                  | (go_at_call 50; refine (n_none H0.out HQ6.out HK5.out (more_wd _ _ _)).mono ?_; rintro e w1 hs; obtain ⟨v9, x9, k9, rfl, rfl⟩ := hs.out; clear hs))
                exact ⟨rfl, prodret_no HT.out (cno_of _ _ _ _)⟩
              | some a =>
                obtain ⟨m6, r6⟩ := a
                by_cases hl : 0 < r6.length ∧ r6.length ≤ 32
                · have HT : Hid (prodW (t0 :: r0) = some ({ reqBlank 3 with topic := t0, index := m1, flush := b2, batch := ⟨0, r6.length, m3, m4, m5, recsW m6 0 r6⟩ }, [])) := Lib.hid (by simp only [prodW, tkT, hq1, hq2, hq3, hq4, hq5, hq6]; rw [if_pos hl])
                  obtain ⟨N, hN⟩ : ∃ N, r6.length = N := ⟨_, rfl⟩
                  have HN := Lib.hid hN
                  have HQ1 := Lib.hid hq1
                  have HQ2 := Lib.hid hq2
                  have HQ3 := Lib.hid hq3
                  have HQ4 := Lib.hid hq4
                  have HQ5 := Lib.hid hq5
                  have HQ6 := Lib.hid hq6
                  clear hq1 hq2 hq3 hq4 hq5 hq6
                  obtain ⟨hl1, hl2⟩ := hl
                  rw [hN] at hl1 hl2
                  clear hN
                  refine calls_wd ?_
                  go_enter Tryz.func75, Tryz.ntmps75
                  go_wp2_with (first
                    | (go_at_call 48; refine (t_step H0.out (fun W0 h => h) (first_more H0.out (more_wd _ _ _))).mono ?_; rintro e w1 ⟨rfl, v0, y0, j0, hk, rfl⟩; have HK0 := Lib.hid hk; clear hk)
                    | (go_at_call 50; refine (n_step H0.out HQ1.out HK0.out (more_wd _ _ _)).mono ?_; rintro e w1 ⟨rfl, v1, y1, j1, hk, rfl⟩; have HK1 := Lib.hid hk; clear hk)
                    | (go_at_call 51; refine (y_step H0.out HQ2.out HK1.out (more_wd _ _ _)).mono ?_; rintro e w1 ⟨rfl, v2, y2, j2, hk, rfl⟩; have HK2 := Lib.hid hk; clear hk)
                    | (go_at_call 50; refine (n_step H0.out HQ3.out HK2.out (more_wd _ _ _)).mono ?_; rintro e w1 ⟨rfl, v3, y3, j3, hk, rfl⟩; have HK3 := Lib.hid hk; clear hk)
                    | (go_at_call 50; refine (n_step H0.out HQ4.out HK3.out (more_wd _ _ _)).mono ?_; rintro e w1 ⟨rfl, v4, y4, j4, hk, rfl⟩; have HK4 := Lib.hid hk; clear hk)
                    | (go_at_call 50; refine (n_step H0.out HQ5.out HK4.out (more_wd _ _ _)).mono ?_; rintro e w1 ⟨rfl, v5, y5, j5, hk, rfl⟩; have HK5 := Lib.hid hk; clear hk)
                    | (go_at_call 50; refine (n_step H0.out HQ6.out HK5.out (more_wd _ _ _)).mono ?_; rintro e w1 ⟨rfl, v6, y6, j6, hk, rfl⟩; have HK6 := Lib.hid hk; clear hk; have HS6 := Lib.hid (H0.out.step HK6.out); obtain ⟨a6, c6, hv6, hc6⟩ := HS6.out.words.slice; rw [HN.out] at hv6 hc6; subst hv6; have hcell6 := HS6.out.rd.c0; have hf6 := HS6.out.rd.f 0)
                    | (go_at_call 26; ((with_reducible refine (need_yesB _ (by first | rfl | exact decide_eq_true (by omega))).mono ?_); rintro e w1 ⟨rfl, x1, n1, rfl⟩)))
                  obtain ⟨i0, hi, hz0, hz1, hz2⟩ := info_parts info_rec
                  have HW := Lib.hid HS6.out.words
                  obtain ⟨a7, c7, h70, h71, h72, h73⟩ := HW.out.out
                  rw [HN.out] at h70
                  cases h70
                  obtain ⟨b7, o7, rfl, hb7, hc7⟩ := h73 (by intro h0; have := HN.out; rw [h0] at this; simp at this; omega)
                  rw [cset_size] at hb7
                  have HC7 := Lib.hid hc7
                  have HSM := Lib.hid HW.out.small
                  clear h71 h72 h73 hc7
                  have HBASE : Hid ((cset w p (.slice (some ⟨b7, o7, none⟩) N c6)).heap.size = w.heap.size) := Lib.hid (cset_size _ _ _)
                  go_loopw [45] (fun s45 wr => ∃ (k : Nat) (m : Ext) (a : Option Addr) (c : Nat), k ≤ N ∧ s45 = .int .i64 k ∧ wr = wd (cset w p (.slice (some ⟨b7, o7, none⟩) N c6)) [m.e, #[.cells (rq ⟨3, t0, m1, 0, false, b2, 0, 0, 0, [], [], 0, ⟨0, 0, m3, m4, m5, recsW m6 0 (r6.take k)⟩⟩ a c) 27], y2, y1, y0, #[.cells (rq (reqBlank 0) none 0) 27]] m.n ∧
                    Hid (rowIn w.heap.size (shape [#[.cells (rq ⟨3, t0, m1, 0, false, b2, 0, 0, 0, [], [], 0, ⟨0, 0, m3, m4, m5, recsW m6 0 (r6.take k)⟩⟩ a c) 27], y2, y1, y0, #[.cells (rq (reqBlank 0) none 0) 27]]) m.e 85 6 (.slice a k c) k ((recsW m6 0 (r6.take k)).flatMap recCells))) (fun s45 _ => N - (intOf s45).toNat)
                  case atStart => exact ⟨0, ⟨y3 ++ (y4 ++ (y5 ++ (y6 ++ x1))), _⟩, none, 0, Nat.zero_le _, rfl, by rw [wd_merge, wd_merge, wd_merge, wd_merge]; rfl, Lib.hid (rowIn_nil _ _ _ _ _)⟩
                  case round =>
                    obtain ⟨k, m, a, c, hkN, rfl, rfl, HROW⟩ := hrel
                    by_cases hk : k < N
                    · obtain ⟨s, hs⟩ : ∃ s, r6[k]? = some s := ⟨_, List.getElem?_eq_getElem (by rw [HN.out]; exact hk)⟩
                      have hcell := HC7.out k s hs
                      have HREC := Lib.hid (fun W => record_any s W (HSM.out s (List.mem_of_getElem? hs)))
                      have HSN := Lib.hid (recsW_snoc m6 r6 0 k s hs)
                      obtain ⟨X, hX⟩ : ∃ X, recW s = X := ⟨_, rfl⟩
                      rw [hX] at HREC HSN
                      obtain ⟨RS, hRS⟩ : ∃ RS, recsW m6 0 (r6.take k) = RS := ⟨_, rfl⟩
                      have HL : Hid (RS.length = k) := Lib.hid (by rw [← hRS, recsW_len, List.length_take, HN.out]; omega)
                      rw [hRS] at HROW HSN ⊢
                      obtain ⟨xd, xt, xk, xkey, xe, xv⟩ := X
                      try dsimp only at HREC
                      have HSN2 : Hid (recsW m6 0 (r6.take (k + 1)) = RS ++ [⟨(k : Int), m6, xk, xkey, xe, xv⟩]) := Lib.hid (by rw [HSN.out, Nat.zero_add])
                      clear hs hX hRS HSN
                      have hset : ∀ x a0 c0 a c, (rq x a0 c0).setIfInBounds 17 (.slice a (k + 1) c) = rq { x with batch := { x.batch with recs := RS ++ [⟨(k : Int), m6, xk, xkey, xe, xv⟩] } } a c := fun x a0 c0 a c => by
                        have := rq_set17 x a0 a c0 c (RS ++ [⟨(k : Int), m6, xk, xkey, xe, xv⟩])
                        rwa [show (RS ++ [(⟨(k : Int), m6, xk, xkey, xe, xv⟩ : Rec)]).length = k + 1 by rw [List.length_append, HL.out]; rfl] at this
                      have hLk : RS.length = k := HL.out
                      go_wp2_with (first
                        | (go_at_call 106; ((with_reducible refine (HREC.out _).mono ?_); rintro e w1 ⟨rfl, x1, n1, rfl⟩))
                        | (at_builtin; refine wp_append_rowC w.heap.size [_, _] rfl _ _ _ rfl 85 i0 _ 6 64 Tryz.underlying23 hi hz0 hz1 hz2 rfl (by decide) HBASE.out (L := [#[.cells (rq ⟨3, t0, m1, 0, false, b2, 0, 0, 0, [], [], 0, ⟨0, 0, m3, m4, m5, RS⟩⟩ a c) 27], y2, y1, y0, #[.cells (rq (reqBlank 0) none 0) 27]]) (.slice a k c) k _ rfl HROW.out _ _ 1 1 rfl rfl (by simp [Value.oneCell']) (by unfold maxLen; omega) (by omega) ?_; intro v8 m8 hr8; obtain ⟨a8, c8, rfl⟩ := rowIn_slice hr8; have HR8 := Lib.hid hr8; clear hr8))
                      go_roundw
                      case rel => exact ⟨k + 1, m8, a8, c8, by omega, by go_num, by rw [HSN2.out], Lib.hid (by rw [HSN2.out, flat_recs]; exact HR8.out)⟩
                      case measure => simp [intOf]; omega
                    · obtain rfl : k = N := by omega
                      have hT : r6.take k = r6 := List.take_of_length_le (by rw [HN.out]; exact Nat.le_refl _)
                      rw [hT] at HROW ⊢
                      obtain ⟨RS, hRS⟩ : ∃ RS, recsW m6 0 r6 = RS := ⟨_, rfl⟩
                      have HL : Hid (RS.length = k) := Lib.hid (by rw [← hRS, recsW_len, HN.out])
                      rw [hRS] at HROW HT ⊢
                      rw [HN.out] at HT
                      clear hT hRS
                      have hLk : RS.length = k := HL.out
                      go_wp2
                      refine bodyPost_ret (v := .agg (rq ⟨3, t0, m1, 0, false, b2, 0, 0, 0, [], [], 0, ⟨0, k, m3, m4, m5, RS⟩⟩ a c)) (by first | (simp [results, Tryz.results75, go_sem]; done) | (simp [results, Tryz.results75, go_sem]; rfl)) rfl ?_
                      exact prodret_yes HT.out rfl (ctk_of _ _ (fun W0 _ => srd_nil W0)) ((recsnew_of_row (w := cset w p (.slice none 0 0)) (by rw [cset_size]; exact HROW.out) HL.out (by omega)).keep (by rw [cset_size]; exact sz_le _ _) (fun _ _ _ => rfl))
                · have HT : Hid (prodW (t0 :: r0) = none) := Lib.hid (by simp only [prodW, tkT, hq1, hq2, hq3, hq4, hq5, hq6]; rw [if_neg hl])
                  have HQ1 := Lib.hid hq1
                  have HQ2 := Lib.hid hq2
                  have HQ3 := Lib.hid hq3
                  have HQ4 := Lib.hid hq4
                  have HQ5 := Lib.hid hq5
                  have HQ6 := Lib.hid hq6
                  clear hq1 hq2 hq3 hq4 hq5 hq6
                  obtain ⟨N, hN⟩ : ∃ N, r6.length = N := ⟨_, rfl⟩
                  have HN := Lib.hid hN
                  have hl2 : N = 0 ∨ 32 < N := by omega
                  clear hN hl
                  rcases hl2 with rfl | hl2
                  · refine calls_wd ?_
                    go_enter Tryz.func75, Tryz.ntmps75
                    go_wp2_with (first
                      | (go_at_call 48; refine (t_step H0.out (fun W0 h => h) (first_more H0.out (more_wd _ _ _))).mono ?_; rintro e w1 ⟨rfl, v0, y0, j0, hk, rfl⟩; have HK0 := Lib.hid hk; clear hk)
                      | (go_at_call 50; refine (n_step H0.out HQ1.out HK0.out (more_wd _ _ _)).mono ?_; rintro e w1 ⟨rfl, v1, y1, j1, hk, rfl⟩; have HK1 := Lib.hid hk; clear hk)
                      | (go_at_call 51; refine (y_step H0.out HQ2.out HK1.out (more_wd _ _ _)).mono ?_; rintro e w1 ⟨rfl, v2, y2, j2, hk, rfl⟩; have HK2 := Lib.hid hk; clear hk)
                      | (go_at_call 50; refine (n_step H0.out HQ3.out HK2.out (more_wd _ _ _)).mono ?_; rintro e w1 ⟨rfl, v3, y3, j3, hk, rfl⟩; have HK3 := Lib.hid hk; clear hk)
                      | (go_at_call 50; refine (n_step H0.out HQ4.out HK3.out (more_wd _ _ _)).mono ?_; rintro e w1 ⟨rfl, v4, y4, j4, hk, rfl⟩; have HK4 := Lib.hid hk; clear hk)
                      | (go_at_call 50; refine (n_step H0.out HQ5.out HK4.out (more_wd _ _ _)).mono ?_; rintro e w1 ⟨rfl, v5, y5, j5, hk, rfl⟩; have HK5 := Lib.hid hk; clear hk)
                      | (go_at_call 50; refine (n_step H0.out HQ6.out HK5.out (more_wd _ _ _)).mono ?_; rintro e w1 ⟨rfl, v6, y6, j6, hk, rfl⟩; have HK6 := Lib.hid hk; clear hk; have HS6 := Lib.hid (H0.out.step HK6.out); obtain ⟨a6, c6, hv6, hc6⟩ := HS6.out.words.slice; rw [HN.out] at hv6 hc6; subst hv6; have hcell6 := HS6.out.rd.c0; have hf6 := HS6.out.rd.f 0)
                      | (go_at_call 26; ((with_reducible refine (need_noB _ (by first | rfl | exact decide_eq_false (by omega))).mono ?_); rintro e w1 ⟨rfl, x1, n1, rfl⟩)))
                    exact ⟨rfl, prodret_no HT.out (cno_of _ _ _ _)⟩
                  · refine calls_wd ?_
                    go_enter Tryz.func75, Tryz.ntmps75
                    go_wp2_with (first
                      | (go_at_call 48; refine (t_step H0.out (fun W0 h => h) (first_more H0.out (more_wd _ _ _))).mono ?_; rintro e w1 ⟨rfl, v0, y0, j0, hk, rfl⟩; have HK0 := Lib.hid hk; clear hk)
                      | (go_at_call 50; refine (n_step H0.out HQ1.out HK0.out (more_wd _ _ _)).mono ?_; rintro e w1 ⟨rfl, v1, y1, j1, hk, rfl⟩; have HK1 := Lib.hid hk; clear hk)
                      | (go_at_call 51; refine (y_step H0.out HQ2.out HK1.out (more_wd _ _ _)).mono ?_; rintro e w1 ⟨rfl, v2, y2, j2, hk, rfl⟩; have HK2 := Lib.hid hk; clear hk)
                      | (go_at_call 50; refine (n_step H0.out HQ3.out HK2.out (more_wd _ _ _)).mono ?_; rintro e w1 ⟨rfl, v3, y3, j3, hk, rfl⟩; have HK3 := Lib.hid hk; clear hk)
                      | (go_at_call 50; refine (n_step H0.out HQ4.out HK3.out (more_wd _ _ _)).mono ?_; rintro e w1 ⟨rfl, v4, y4, j4, hk, rfl⟩; have HK4 := Lib.hid hk; clear hk)
                      | (go_at_call 50; refine (n_step H0.out HQ5.out HK4.out (more_wd _ _ _)).mono ?_; rintro e w1 ⟨rfl, v5, y5, j5, hk, rfl⟩; have HK5 := Lib.hid hk; clear hk)
                      | (go_at_call 50; refine (n_step H0.out HQ6.out HK5.out (more_wd _ _ _)).mono ?_; rintro e w1 ⟨rfl, v6, y6, j6, hk, rfl⟩; have HK6 := Lib.hid hk; clear hk; have HS6 := Lib.hid (H0.out.step HK6.out); obtain ⟨a6, c6, hv6, hc6⟩ := HS6.out.words.slice; rw [HN.out] at hv6 hc6; subst hv6; have hcell6 := HS6.out.rd.c0; have hf6 := HS6.out.rd.f 0)
                      | (go_at_call 26; ((with_reducible refine (need_noB _ (by first | rfl | exact decide_eq_false (by omega))).mono ?_); rintro e w1 ⟨rfl, x1, n1, rfl⟩)))
                    exact ⟨rfl, prodret_no HT.out (cno_of _ _ _ _)⟩
end Go.Proofs.YtifoekadjnlhcaaGreatDoor
