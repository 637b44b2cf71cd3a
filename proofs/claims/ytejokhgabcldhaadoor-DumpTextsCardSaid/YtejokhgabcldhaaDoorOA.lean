/- dump: Read. -/
import Derived.Test.YtejokhgabcldhaaDoorNY
import Derived.Test.YtejokhgabcldhaaDoorNP
namespace Go.Proofs.YtejokhgabcldhaaDoor
open Go.ChangeShapes Go.WideShapes Go.ChangeAt Go.RowKit
set_option linter.unusedVariables false
set_option linter.unusedSimpArgs false

/-- 'append(s, x)', x one element, its row beneath the pieces D: what else there is stays. -/
theorem wp_append_rowDK (D : List (Array Obj)) {P : Program} {ops : Array Oper} {rest : List Oper} {o : Oper} {a : Act} {Q : Exit → Act → World → Prop} (hgd : o.guard = none) (s x : Operand) (t : TypeId)
    (ho : o.op = .call { callee := .builtin .append, args := #[s, x], argTypes := #[t, t] })
    (e : TypeId) (i : TypeInfo) (z : Value) (size bytes : Nat) (ht : P.underlying t = some (.slice e)) (hi : P.info? e = some i) (hz : i.zero = some z)
    (hsize : i.size = size) (hby : i.bytes = bytes) (hzs : z.cells.size = size) (hsz : 0 < size)
    {w : World} {L : List (Array Obj)} {n : Nat} {m : Array Obj} (v : Value) (k : Nat) (xs : List Value) (hs : a.eval s = v) (hrow : rowIn w.heap.size (shape L) m e size v k xs)
    (C : Array Value) (t' : TypeId) (q c : Nat) (hx : a.eval x = .slice (some ⟨sz w.heap.size (shape (D ++ m :: L)), 0, none⟩) q c) (hl : C.size = q * size) (h1 : ∀ u ∈ C.toList, u.oneCell' = true)
    (h63 : k + q ≤ maxLen) (hbytes : (k + q) * bytes ≤ 140737488355328)
    (h : ∀ (v' : Value) (m' : Ext), rowIn w.heap.size (shape L) m'.e e size v' (k + q) (xs ++ C.toList) → Keeps [e] (wd w (D ++ m :: L) n) (wd w (m'.e :: L) m'.n) → wpList P ops Q rest (a.put o.dst v') (wd w (m'.e :: L) m'.n)) :
    wpList P ops Q (o :: rest) a (wd w (#[.cells C t'] :: (D ++ m :: L)) n) := by
  rw [wd_mall1]
  rw [wd_mall] at h
  exact wp_append_rowK hgd s x t ho e i z size bytes ht hi hz hsize hby hzs hsz v k xs hs (rowIn_mall hrow D) C t' q c (by rw [hx, sz_mall]; rfl) hl h1 h63 hbytes h
/-- Batches, a line's number and an error, handed back. -/
structure ReadRet (w w' : World) (x : Ending) (g : List Bat × Nat × Int) : Prop where
  out : ∃ (a : Option Addr) (cap : Nat) (l : List Btm), x = .returned (.tuple #[.slice a l.length cap, .int .i64 g.2.1, .int .i64 g.2.2]) ∧ l.map Btm.b = g.1 ∧ BatsAt w' a l ∧ (∀ x ∈ l, x.b.recs.length ≤ maxLen) ∧ l.length ≤ 1000 ∧ More w w'
theorem readret_no {w w' : World} {n : Nat} {e : Int} {i : Int} {g : List Bat × Nat × Int} (hg : g = ([], n, e)) (hi : i = n) (hm : More w w') : ReadRet w w' (.returned (.tuple #[.slice none 0 0, .int .i64 i, .int .i64 e])) g := by
  subst hg hi
  exact ⟨none, 0, [], rfl, rfl, BatsAt.nil _ _, by simp, by decide, hm⟩
/-- The reader that Read makes. -/
abbrev rdo (w : World) (n : Nat) (K : Int) : Array Obj := #[.cells #[.slice (some ⟨sz w.heap.size [], 0, none⟩) n n, .int .i64 K] 79]
theorem lrd_own {w : World} {ls : List (List UInt8)} {C : Array Value} (hC : (ls.flatMap strCell).toArray = C) {N : Nat} (hN : ls.length = N) (m : Array Obj) (K n : Nat) : LRd (wd w [m, rdo w N K, #[.cells C 9]] n) (sz w.heap.size [1]) (some ⟨sz w.heap.size [], 0, none⟩) N ls K := by
  subst hC hN
  refine ⟨?_, ⟨fun hne => ⟨_, (ls.flatMap strCell).toArray, (0, 0), rfl, ?_, fun i hi => by simp⟩⟩⟩
  · rw [wd_past w _ _ _ _ _ rfl (by simp [shape_cons, shape_nil, inn_cons])]
    exact wd_at w [#[.cells _ 9]] n _ _ _ rfl rfl
  · rw [wd_past w _ _ _ _ _ rfl (by simp [shape_cons, shape_nil, inn_cons]), wd_past w _ _ _ _ _ rfl (by simp [shape_cons, shape_nil, inn_cons])]
    exact wd_at w [] n _ _ _ rfl rfl
theorem lset_own (w : World) (m : Array Obj) (N n : Nat) (K K' : Int) (C : Array Value) : lset (wd w [m, rdo w N K, #[.cells C 9]] n) (sz w.heap.size [1]) K' = wd w [m, rdo w N K', #[.cells C 9]] n := by
  rw [lset_wd_past _ _ _ _ _ _ _ rfl (by simp [shape_cons, shape_nil, inn_cons]), lset_wd _ _ _ _ _ _ _ _ _ rfl (by simp [shape_cons, shape_nil]), onTop_wd]
theorem more_piece (w : World) (m x : Array Obj) (L : List (Array Obj)) (n n' : Nat) : More (wd w (m :: L) n) (wd w ((m ++ x) :: L) n') := ⟨x, n', by rw [wd_plus, wd_merge]⟩
theorem dumpRead_none {t : List UInt8} (h1 : ¬ 65536 < t.length) (h2 : t ≠ []) {j : Nat} (h : readL (linesOf t).length (linesOf t) 0 [] = (none, j)) : dumpRead t = ([], if wholeB t then j else min j (linesOf t).length, 4) := by
  unfold dumpRead; rw [if_neg h1, if_neg h2, h]
theorem dumpRead_some {t : List UInt8} (h1 : ¬ 65536 < t.length) (h2 : t ≠ []) {m : List Bat} {j : Nat} (h : readL (linesOf t).length (linesOf t) 0 [] = (some m, j)) : dumpRead t = if wholeB t then (m, 0, 0) else ([], (linesOf t).length, 4) := by
  unfold dumpRead; rw [if_neg h1, if_neg h2, h]
theorem readL_end {f K : Nat} {out : List Bat} : readL f [] K out = (some out, K) := by cases f <;> simp [readL]
theorem readL_full {f K : Nat} {ls : List (List UInt8)} {out : List Bat} (h : ls ≠ []) (ho : 1000 ≤ out.length) : readL (f + 1) ls K out = (none, K + 1) := by rw [readL, if_neg h, if_pos ho]
theorem readL_bad {f K j : Nat} {ls : List (List UInt8)} {out : List Bat} {b : Bat} (h : ls ≠ []) (ho : ¬ 1000 ≤ out.length) (hb : readBat ls = (b, j, false)) : readL (f + 1) ls K out = (none, K + j) := by rw [readL, if_neg h, if_neg ho, hb]; simp
theorem readL_on {f K j : Nat} {ls : List (List UInt8)} {out : List Bat} {b : Bat} (h : ls ≠ []) (ho : ¬ 1000 ≤ out.length) (hb : readBat ls = (b, j, true)) : readL (f + 1) ls K out = readL f (ls.drop j) (K + j) (out ++ [b]) := by rw [readL, if_neg h, if_neg ho, hb]; simp
theorem info_bat0 : (Tryd.prog.info? 35).map (fun i => (i.zero, i.size, i.bytes)) = some (some (.agg #[.int .i64 0, .int .i64 0, .int .i64 0, .int .i64 0, .int .i64 0, .slice none 0 0]), 6, 64) := by kernel_rfl
theorem flat_btm (l : List Btm) (x : Btm) : (l ++ [x]).flatMap btmCells = l.flatMap btmCells ++ btmCells x := by simp
set_option maxRecDepth 100000 in
set_option maxHeartbeats 12800000 in
theorem read_any (t : List UInt8) (w : World) (hl : t.length ≤ 1099511627776) : Calls Tryd.prog 19 #[.string (str t)] w fun x w' => ReadRet w w' x (dumpRead t) := by
  have hsz := str_size t
  by_cases hlong : 65536 < t.length
  · have hR : dumpRead t = ([], 0, 5) := by unfold dumpRead; rw [if_pos hlong]
    have HR := Lib.hid hR
    clear hR
    refine calls_wd ?_
    go_enter Tryd.func19, Tryd.ntmps19
    go_wp2
    refine bodyPost_ret (v := .tuple #[.slice none 0 0, .int .i64 0, .int .i64 5]) (by simp [results, Tryd.results19, go_sem]) rfl ?_
    exact readret_no HR.out rfl (more_wd _ _ _)
  by_cases hne : t = []
  · subst hne
    have hq0 : (str []).toList.isEmpty = true := by rw [str_toList]; rfl
    have HR : Hid (dumpRead [] = ([], 0, 0)) := Lib.hid rfl
    clear hl hlong hsz
    have hsz : (str []).size = 0 := rfl
    refine calls_wd ?_
    go_enter Tryd.func19, Tryd.ntmps19
    go_wp2
    refine bodyPost_ret (v := .tuple #[.slice none 0 0, .int .i64 0, .int .i64 0]) (by simp [results, Tryd.results19, go_sem]) rfl ?_
    exact readret_no HR.out rfl (more_wd _ _ _)
  have hq0 : (str t).toList.isEmpty = false := by rw [str_toList]; simp [hne]
  have hSF : Hid (∀ W, Calls Tryd.prog 36 #[.string (str t), .string { data := #[10] }] W fun x w' => x = .returned (.bool (wholeB t)) ∧ w' = W) := Lib.hid (fun W => suffix_any t 10 W hl)
  have hTR : Hid (∀ W, Calls Tryd.prog 38 #[.string (str t), .string { data := #[10] }] W fun x w' => x = .returned (.string (str (if wholeB t then t.dropLast else t))) ∧ w' = W) := Lib.hid (fun W => trim_any t 10 W hl)
  have htl : (if wholeB t then t.dropLast else t).length ≤ t.length := by split <;> simp
  have hSP : Hid (∀ L n, Calls Tryd.prog 37 #[.string (str (if wholeB t then t.dropLast else t)), .string { data := #[10] }] (wd w L n) fun x w' => x = .returned (.slice (some ⟨sz w.heap.size (shape L), 0, none⟩) (linesOf t).length (linesOf t).length) ∧ w' = wd w (#[.cells ((linesOf t).flatMap strCell).toArray 9] :: L) n) := Lib.hid (fun L n => split_wd (if wholeB t then t.dropLast else t) 10 w L n (by omega))
  have hlen : (linesOf t).length ≤ 65537 := by
    have := splitC_len_le 10 (if wholeB t then t.dropLast else t)
    unfold linesOf; omega
  have HEACH := Lib.hid (fun x (hx : x ∈ linesOf t) => (show x.length ≤ 65536 by have := splitC_each 10 (if wholeB t then t.dropLast else t) x hx; omega))
  have HNO := Lib.hid (fun j h => dumpRead_none hlong hne (j := j) h)
  have HYES := Lib.hid (fun m j h => dumpRead_some hlong hne (m := m) (j := j) h)
  obtain ⟨R, hR⟩ : ∃ R, dumpRead t = R := ⟨_, rfl⟩
  rw [hR] at HNO HYES ⊢
  obtain ⟨T, hT⟩ : ∃ T, (if wholeB t then t.dropLast else t) = T := ⟨_, rfl⟩
  rw [hT] at hTR hSP htl
  obtain ⟨ls, hls⟩ : ∃ ls, linesOf t = ls := ⟨_, rfl⟩
  rw [hls] at hSP hlen HEACH HNO HYES
  obtain ⟨WH, hWH⟩ : ∃ WH, wholeB t = WH := ⟨_, rfl⟩
  rw [hWH] at hSF HNO HYES
  obtain ⟨C, hC⟩ : ∃ C, (ls.flatMap strCell).toArray = C := ⟨_, rfl⟩
  rw [hC] at hSP
  obtain ⟨N, hN⟩ : ∃ N, ls.length = N := ⟨_, rfl⟩
  rw [hN] at hSP hlen HNO HYES
  have HOWN := Lib.hid (fun (m : Array Obj) (K n : Nat) => lrd_own (w := w) hC hN m K n)
  have HBT := Lib.hid (fun (m : Array Obj) (K n : Nat) (hK : K < N) => readbat_any (sz w.heap.size [1]) (some ⟨sz w.heap.size [], 0, none⟩) N ls K _ (lrd_own (w := w) hC hN m K n) (by omega) (by omega) HEACH.out)
  have HN := Lib.hid hN
  obtain ⟨i0, hi, hz0, hz1, hz2⟩ := info_parts info_bat0
  clear hR hT hls hWH hC hN hne
  refine calls_wd ?_
  go_enter Tryd.func19, Tryd.ntmps19
  go_wp2_with (first
    | (go_at_call 36; ((with_reducible refine (hSF.out _).mono ?_); rintro e w1 ⟨rfl, rfl⟩))
    | (go_at_call 38; ((with_reducible refine (hTR.out _).mono ?_); rintro e w1 ⟨rfl, rfl⟩))
    | (go_at_call 37; ((with_reducible refine (hSP.out _ _).mono ?_); rintro e w1 ⟨rfl, rfl⟩)))
  go_loopg [7] N (fun g v wr => ∃ (K : Nat) (l : List Btm) (m : Ext) (a' : Option Addr) (c' : Nat), K ≤ N ∧ N - K ≤ g ∧ l.length ≤ 1000 ∧ v = .slice a' l.length c' ∧ Hid (readL g (ls.drop K) K (l.map Btm.b) = readL N ls 0 []) ∧ Hid (rowIn w.heap.size [1, 1] m.e 35 6 (.slice a' l.length c') l.length (l.flatMap btmCells)) ∧
    Hid (∀ x ∈ l, TRow recCells 71 wr x.a x.b.recs ∧ x.b.recs.length ≤ maxLen) ∧ wr = wd w [m.e, rdo w N (K : Int), #[.cells C 9]] m.n)
  case atStart => exact ⟨0, [], ⟨#[], _⟩, none, 0, Nat.zero_le _, Nat.le_refl _, by decide, rfl, Lib.hid rfl, Lib.hid (rowIn_nil _ _ _ _ _), Lib.hid (by simp), by rw [wd_empty]; rfl⟩
  case round =>
    obtain ⟨K, l, m, a', c', hK, hgk, hll, rfl, HRL, HROW, HTR, rfl⟩ := hrel
    have HNIL := Lib.hid (fun (h : K = N) => (show ls.drop K = [] by rw [h, ← HN.out]; exact List.drop_length))
    by_cases hlt : K < N
    · obtain ⟨f, rfl⟩ : ∃ f, gk = f + 1 := ⟨gk - 1, by omega⟩
      have HNE : Hid (ls.drop K ≠ []) := Lib.hid (by rw [ne_eq, List.drop_eq_nil_iff, HN.out]; omega)
      go_wp2
      refine wp_region_wd (by kernel_rfl) (by kernel_rfl) ?_
      repeat (go_big_quiet_step ((fail)))
      refine wpQuiet_nil ?_
      rintro _ ⟨mx, rfl⟩
      rw [wd_merge]
      have HROW1 := Lib.hid (rowIn_more HROW.out mx.e)
      have HTR1 : Hid (∀ x ∈ l, TRow recCells 71 (wd w [m.e ++ mx.e, rdo w N (K : Int), #[.cells C 9]] mx.n) x.a x.b.recs ∧ x.b.recs.length ≤ maxLen) := Lib.hid (fun x hx => ⟨(HTR.out x hx).1.more (more_piece _ _ _ _ _ _), (HTR.out x hx).2⟩)
      clear HROW HTR HNIL
      obtain ⟨mn, hmn⟩ : ∃ n, mx.n = n := ⟨_, rfl⟩
      rw [hmn] at HTR1 ⊢
      clear hmn
      generalize m.e ++ mx.e = M at HROW1 HTR1 ⊢
      by_cases hfull : 1000 ≤ l.length
      · have HZ := Lib.hid (HNO.out (K + 1) (HRL.out.symm.trans (readL_full HNE.out (by simpa using hfull))))
        rw [show (if WH = true then K + 1 else min (K + 1) N) = K + 1 by split <;> omega] at HZ
        go_wp2
        refine wp_region_wd (by kernel_rfl) (by kernel_rfl) ?_
        repeat (go_big_quiet_step ((fail)))
        refine wpQuiet_nil ?_
        rintro _ ⟨mx, rfl⟩
        go_wp2
        refine bodyPost_ret (v := .tuple #[.slice none 0 0, .int .i64 ((K : Int) + 1), .int .i64 4]) (by simp [results, Tryd.results19, go_sem]) rfl ?_
        exact readret_no HZ.out rfl (more_wd _ _ _)
      · obtain ⟨RB, hRB⟩ : ∃ g, readBat (ls.drop K) = g := ⟨_, rfl⟩
        obtain ⟨⟨b0, b1, b2, b3, b4, rs⟩, j, ok⟩ := RB
        obtain ⟨K2, hK2⟩ : ∃ K2, K + j = K2 := ⟨_, rfl⟩
        have HB : Hid (∀ M n, Calls Tryd.prog 39 #[.pointer (some ⟨sz w.heap.size [1], 0, none⟩)] (wd w [M, rdo w N (K : Int), #[.cells C 9]] n) fun x w' => ∃ (ab : Option Addr) (cb : Nat) (mb : Ext), x = .returned (.tuple #[.agg #[.int .i64 b0, .int .i64 b1, .int .i64 b2, .int .i64 b3, .int .i64 b4, .slice ab rs.length cb], .bool ok]) ∧ w' = wd w [mb.e, M, rdo w N (K2 : Int), #[.cells C 9]] mb.n ∧
            Keeps [79] (wd w [M, rdo w N (K : Int), #[.cells C 9]] n) w' ∧ TRow recCells 71 w' ab rs) := Lib.hid (fun M n => (HBT.out M K n hlt).mono (fun x w' h => by
          obtain ⟨ab, cb, mb, hx, hw, ht⟩ := h.out
          rw [hRB] at hx hw ht
          have hk := (lset_keeps (HOWN.out M K n) ((K + j : Nat) : Int)).trans (Keeps.of_more (T := [79]) (⟨mb.e, mb.n, hw⟩ : More _ w'))
          refine ⟨ab, cb, mb, hx, ?_, hk, ht⟩
          rw [hw]
          show plus (lset _ _ ((K + j : Nat) : Int)) _ _ = _
          rw [lset_own, wd_plus, hK2]))
        clear HBT HOWN
        have HJ1 : Hid (ok = true → 1 ≤ j ∧ K2 ≤ N ∧ rs.length ≤ 32) := Lib.hid (fun h => by
          subst h
          obtain ⟨e1, e2, e3, e4⟩ := readBat_ok hRB
          rw [List.length_drop, HN.out] at e2
          dsimp only at e1
          have := (batNum_ok (batCheck_ok e4).1).2.2.2.2.2.2.2.2.2.2
          exact ⟨by omega, by omega, this⟩)
        cases ok with
        | false =>
          have HZ := Lib.hid (HNO.out (K + j) (HRL.out.symm.trans (readL_bad HNE.out (by simpa using hfull) hRB)))
          rw [hK2] at HZ
          clear hRB hK2 HRL HNE
          cases WH with
          | true =>
            rw [if_pos rfl] at HZ
            go_wp2_with (first | (go_at_call 39; ((with_reducible refine (HB.out _ _).mono ?_); rintro e w1 ⟨ab, cb, mb, rfl, rfl, hk, ht⟩; clear hk ht)))
            refine wp_region_wd (by kernel_rfl) (by kernel_rfl) ?_
            repeat (go_big_quiet_step ((fail)))
            refine wpQuiet_nil ?_
            rintro _ ⟨mx, rfl⟩
            go_wp2
            refine bodyPost_ret (v := .tuple #[.slice none 0 0, .int .i64 (K2 : Int), .int .i64 4]) (by simp [results, Tryd.results19, go_sem]) rfl ?_
            exact readret_no HZ.out rfl (more_wd _ _ _)
          | false =>
            rw [if_neg (by simp)] at HZ
            go_wp2_with (first | (go_at_call 39; ((with_reducible refine (HB.out _ _).mono ?_); rintro e w1 ⟨ab, cb, mb, rfl, rfl, hk, ht⟩; clear hk ht)))
            refine wp_region_wd (by kernel_rfl) (by kernel_rfl) ?_
            repeat (go_big_quiet_step ((fail)))
            refine wpQuiet_nil ?_
            rintro _ ⟨mx, rfl⟩
            go_wp2
            refine bodyPost_ret (v := .tuple #[.slice none 0 0, .int .i64 (min (K2 : Int) (N : Int)), .int .i64 4]) (by simp [results, Tryd.results19, go_sem]) rfl ?_
            exact readret_no HZ.out (by omega) (more_wd _ _ _)
        | true =>
          obtain ⟨hj1, hj2, hj3⟩ := HJ1.out rfl
          have HZ : Hid (readL f (ls.drop K2) K2 ((l ++ [(⟨⟨b0, b1, b2, b3, b4, rs⟩, none, 0⟩ : Btm)]).map Btm.b) = readL N ls 0 []) := Lib.hid (by
            rw [← HRL.out, readL_on HNE.out (by simpa using hfull) hRB, List.drop_drop, hK2]
            simp)
          clear hRB HRL HNE
          go_wp2_with (first
            | (go_at_call 39; ((with_reducible refine (HB.out _ _).mono ?_); rintro e w1 ⟨ab, cb, mb, rfl, rfl, hk, ht⟩; have HK := Lib.hid hk; have HT := Lib.hid ht; clear hk ht))
            | (at_builtin; refine wp_append_rowDK [#[.cells _ _], mb.e] rfl _ _ _ rfl 35 i0 _ 6 64 Tryd.underlying27 hi hz0 hz1 hz2 rfl (by decide) (L := [rdo w N (K2 : Int), #[.cells C 9]]) (.slice a' l.length c') l.length _ rfl HROW1.out _ _ 1 1 rfl rfl (by simp [Value.oneCell']) (by unfold maxLen; omega) (by omega) ?_; intro v9 m9 hr9 hk9; obtain ⟨a9, c9, rfl⟩ := rowIn_slice hr9; have HR9 := Lib.hid hr9; have HK9 := Lib.hid hk9; clear hr9 hk9))
          go_roundg f
          case measure => omega
          case rel => exact ⟨K2, l ++ [⟨⟨b0, b1, b2, b3, b4, rs⟩, ab, cb⟩], m9, a9, c9, hj2, by omega, by simp; omega, by simp, Lib.hid (by have h := HZ.out; simp at h ⊢; exact h), Lib.hid (by rw [flat_btm, List.length_append]; exact HR9.out), Lib.hid (by
            intro x hx
            rcases List.mem_append.1 hx with hx | hx
            · exact ⟨(((HTR1.out x hx).1.keeps HK.out (by decide)).more (more_cons (.refl _))).keeps HK9.out (by decide), (HTR1.out x hx).2⟩
            · simp at hx
              subst hx
              exact ⟨(HT.out.more (more_cons (.refl _))).keeps HK9.out (by decide), by show rs.length ≤ maxLen; unfold maxLen; omega⟩), rfl⟩
    · have hKN : K = N := by omega
      have hd := HNIL.out hKN
      have HZ := Lib.hid (HYES.out (l.map Btm.b) K (HRL.out.symm.trans (by rw [hd]; exact readL_end)))
      subst hKN
      clear hd
      cases WH with
      | true =>
        rw [if_pos rfl] at HZ
        go_wp2
        refine wp_region_wd (by kernel_rfl) (by kernel_rfl) ?_
        repeat (go_big_quiet_step ((fail)))
        refine wpQuiet_nil ?_
        rintro _ ⟨mx, rfl⟩
        go_wp2
        refine bodyPost_ret (v := .tuple #[.slice a' l.length c', .int .i64 0, .int .i64 0]) (by simp [results, Tryd.results19, go_sem]) rfl ?_
        exact ⟨a', c', l, by rw [HZ.out]; rfl, by rw [HZ.out], ⟨(RowAt.of_rd (cap := c') (rdrow_of_row (k := m.n) (L := [rdo w K (K : Int), #[.cells C 9]]) HROW.out)).more (more_cons (more_same _ _ _ _)), fun x hx => ((HTR.out x hx).1.more (more_cons (more_same _ _ _ _))).at recCells_len⟩, fun x hx => (HTR.out x hx).2, hll, more_wd _ _ _⟩
      | false =>
        rw [if_neg (by simp)] at HZ
        go_wp2
        refine wp_region_wd (by kernel_rfl) (by kernel_rfl) ?_
        repeat (go_big_quiet_step ((fail)))
        refine wpQuiet_nil ?_
        rintro _ ⟨mx, rfl⟩
        go_wp2
        refine wp_region_wd (by kernel_rfl) (by kernel_rfl) ?_
        repeat (go_big_quiet_step ((fail)))
        refine wpQuiet_nil ?_
        rintro _ ⟨mx, rfl⟩
        go_wp2
        refine bodyPost_ret (v := .tuple #[.slice none 0 0, .int .i64 (K : Int), .int .i64 4]) (by simp [results, Tryd.results19, go_sem]) rfl ?_
        exact readret_no HZ.out rfl (more_wd _ _ _)
end Go.Proofs.YtejokhgabcldhaaDoor
