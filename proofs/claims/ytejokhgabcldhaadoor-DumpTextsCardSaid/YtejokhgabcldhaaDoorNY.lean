/- dump: a batch taken off. -/
import Derived.Test.YtejokhgabcldhaaDoorNX
import Derived.Test.YtejokhgabcldhaaDoorMF
namespace Go.Proofs.YtejokhgabcldhaaDoor
open Go.ChangeShapes Go.WideShapes Go.ChangeAt Go.RowKit
set_option linter.unusedVariables false
set_option linter.unusedSimpArgs false

/-- 'append(s, x)', x one element, its row beneath the pieces D; the base's size is B. -/
theorem wp_append_rowB (B : Nat) (D : List (Array Obj)) {P : Program} {ops : Array Oper} {rest : List Oper} {o : Oper} {a : Act} {Q : Exit → Act → World → Prop} (hgd : o.guard = none) (s x : Operand) (t : TypeId)
    (ho : o.op = .call { callee := .builtin .append, args := #[s, x], argTypes := #[t, t] })
    (e : TypeId) (i : TypeInfo) (z : Value) (size bytes : Nat) (ht : P.underlying t = some (.slice e)) (hi : P.info? e = some i) (hz : i.zero = some z)
    (hsize : i.size = size) (hby : i.bytes = bytes) (hzs : z.cells.size = size) (hsz : 0 < size)
    {w : World} (hB : w.heap.size = B) {L : List (Array Obj)} {n : Nat} {m : Array Obj} (v : Value) (k : Nat) (xs : List Value) (hs : a.eval s = v) (hrow : rowIn B (shape L) m e size v k xs)
    (C : Array Value) (t' : TypeId) (q c : Nat) (hx : a.eval x = .slice (some ⟨sz B (shape (D ++ m :: L)), 0, none⟩) q c) (hl : C.size = q * size) (h1 : ∀ u ∈ C.toList, u.oneCell' = true)
    (h63 : k + q ≤ maxLen) (hbytes : (k + q) * bytes ≤ 140737488355328)
    (h : ∀ (v' : Value) (m' : Ext), rowIn B (shape L) m'.e e size v' (k + q) (xs ++ C.toList) → wpList P ops Q rest (a.put o.dst v') (wd w (m'.e :: L) m'.n)) :
    wpList P ops Q (o :: rest) a (wd w (#[.cells C t'] :: (D ++ m :: L)) n) := by
  subst hB
  exact wp_append_rowD D hgd s x t ho e i z size bytes ht hi hz hsize hby hzs hsz v k xs hs hrow C t' q c hx hl h1 h63 hbytes h
theorem readBat_len {s : List UInt8} {ls : List (List UInt8)} (h : (splitC 32 s).length ≠ 7) : readBat (s :: ls) = (Bat.zero, 1, false) := by rw [readBat, if_pos h]
theorem readBat_no {s : List UInt8} {ls : List (List UInt8)} {b : Bat} {n : Int} (h : (splitC 32 s).length = 7) (hb : headOf (splitC 32 s) = b) (hn : sizeOfW (splitC 32 s) = n) (hf : firstLine b n ≠ s ∨ mayB b n = false) : readBat (s :: ls) = (Bat.zero, 1, false) := by
  subst hb hn; rw [readBat, if_neg (by simp [h]), if_pos hf]
theorem readBat_on {s : List UInt8} {ls : List (List UInt8)} {b : Bat} {n : Int} (h : (splitC 32 s).length = 7) (hb : headOf (splitC 32 s) = b) (hn : sizeOfW (splitC 32 s) = n) (hf : firstLine b n = s) (hm : mayB b n = true) : readBat (s :: ls) = readRecs n n.toNat b ls 1 := by
  subst hb hn; rw [readBat, if_neg (by simp [h]), if_neg (by simp [hf, hm])]
theorem readRecs_bad {n : Int} {t : Nat} {b : Bat} {s : List UInt8} {ls : List (List UInt8)} {j : Nat} (h : ((recOf s).2 && mayB (b.put (b.recs ++ [(recOf s).1])) n) = false) : readRecs n (t + 1) b (s :: ls) j = (Bat.zero, j + 1, false) := by rw [readRecs, if_neg (by simp [h])]
theorem readRecs_good {n : Int} {t : Nat} {b : Bat} {s : List UInt8} {ls : List (List UInt8)} {j : Nat} (h : ((recOf s).2 && mayB (b.put (b.recs ++ [(recOf s).1])) n) = true) : readRecs n (t + 1) b (s :: ls) j = readRecs n t (b.put (b.recs ++ [(recOf s).1])) ls (j + 1) := by rw [readRecs, if_pos h]
theorem recOf_fit (s : List UInt8) : NumFit (recOf s).1.delta := by
  unfold recOf
  split
  · next w1 w2 w3 w4 ws hs =>
    have := numD_range w1
    unfold recAs
    dsimp only
    split
    · exact ⟨this.1, by show numD w1 ≤ _; omega⟩
    · split
      · exact ⟨this.1, by show numD w1 ≤ _; omega⟩
      · exact ⟨this.1, by show numD w1 ≤ _; omega⟩
  · exact ⟨by decide, by decide⟩
theorem numFit_of (s : List UInt8) : NumFit (numD s) := by have := numD_range s; exact ⟨this.1, by omega⟩
/-- A batch and yes or no, handed back; the reader's place. -/
structure RBRet (w w' : World) (p k : Nat) (x : Ending) (g : Bat × Nat × Bool) : Prop where
  out : ∃ (a : Option Addr) (cap : Nat) (m : Ext), x = .returned (.tuple #[.agg #[.int .i64 g.1.base, .int .i64 g.1.count, .int .i64 g.1.producer, .int .i64 g.1.epoch, .int .i64 g.1.seq, .slice a g.1.recs.length cap], .bool g.2.2]) ∧
    w' = plus (lset w p ((k + g.2.1 : Nat) : Int)) m.e m.n ∧ TRow recCells 71 w' a g.1.recs
theorem rbret_no {w : World} {p k k' j : Nat} {g : Bat × Nat × Bool} {L : List (Array Obj)} {n : Nat} (hg : g = (Bat.zero, j, false)) (hk : k' = k + j) : RBRet w (wd (lset w p k') L n) p k (.returned (.tuple #[.agg #[.int .i64 0, .int .i64 0, .int .i64 0, .int .i64 0, .int .i64 0, .slice none 0 0], .bool false])) g := by
  subst hg hk
  obtain ⟨m, hm⟩ := (more_wd (lset w p ((k + j : Nat) : Int)) L n).ext
  exact ⟨none, 0, m, rfl, hm, TRow.nil _⟩
theorem rbret_yes {w : World} {p k k' j : Nat} {g : Bat × Nat × Bool} {b0 b1 b2 b3 b4 : Int} {cur : List Rec} {N : Nat} {a : Option Addr} {cap : Nat} {L : List (Array Obj)} {n : Nat} {m : Array Obj} (hN : cur.length = N) (hg : g = (⟨b0, b1, b2, b3, b4, cur⟩, j, true)) (hk : k' = k + j)
    (hr : rowIn w.heap.size (shape L) m 71 6 (.slice a N cap) N (cur.flatMap recCells)) : RBRet w (wd (lset w p k') (m :: L) n) p k (.returned (.tuple #[.agg #[.int .i64 b0, .int .i64 b1, .int .i64 b2, .int .i64 b3, .int .i64 b4, .slice a N cap], .bool true])) g := by
  subst hg hk hN
  obtain ⟨x, hx⟩ := (more_wd (lset w p ((k + j : Nat) : Int)) (m :: L) n).ext
  exact ⟨a, cap, x, rfl, hx, (trow_of_row recCells_len rfl (by rw [lset_size]; exact hr)).1⟩
theorem flat_rec (cur : List Rec) (r : Rec) : (cur ++ [r]).flatMap recCells = cur.flatMap recCells ++ recCells r := by simp
theorem recs_of_row {W w : World} {L : List (Array Obj)} {m : Array Obj} {n N c : Nat} {a : Option Addr} {cur : List Rec} (hsz : W.heap.size = w.heap.size) (hN : cur.length = N) (h : rowIn w.heap.size (shape L) m 71 6 (.slice a N c) N (cur.flatMap recCells)) : RecsAt (wd W (m :: L) n) a cur := by
  subst hN
  exact RowAt.of_rd (cap := c) (rdrow_of_row (by rw [hsz]; exact h))
abbrev bres : Array Obj := #[.cells #[.int .i64 0, .int .i64 0, .int .i64 0, .int .i64 0, .int .i64 0, .slice none 0 0] 35]
set_option maxRecDepth 100000 in
set_option maxHeartbeats 12800000 in
theorem readbat_any (p : Nat) (a : Option Addr) (cap : Nat) (ls : List (List UInt8)) (k : Nat) (w : World) (h : LRd w p a cap ls k) (hk : k < ls.length) (hlen : ls.length ≤ 100000) (heach : ∀ x ∈ ls, x.length ≤ 65536) :
    Calls Tryd.prog 39 #[.pointer (some ⟨p, 0, none⟩)] w fun x w' => RBRet w w' p k x (readBat (ls.drop k)) := by
  obtain ⟨s, hx⟩ : ∃ s, ls[k]? = some s := ⟨_, List.getElem?_eq_getElem hk⟩
  have hs := heach s (List.mem_of_getElem? hx)
  have hdr := drop_at ls k s hx
  obtain ⟨K1, hK1⟩ : ∃ K1, k + 1 = K1 := ⟨_, rfl⟩
  have HN1 := Lib.hid (fun L n => hK1 ▸ next_yes_at h (by omega) k s hx L n)
  have HSP : Hid (∀ L n, Calls Tryd.prog 37 #[.string (str s), .string { data := #[32] }] (wd (lset w p (K1 : Int)) L n) fun x w' => x = .returned (.slice (some ⟨sz w.heap.size (shape L), 0, none⟩) (splitC 32 s).length (splitC 32 s).length) ∧ w' = wd (lset w p (K1 : Int)) (#[.cells ((splitC 32 s).flatMap strCell).toArray 9] :: L) n) := Lib.hid (fun L n => by have h := split_wd s 32 (lset w p (K1 : Int)) L n (by omega); rw [lset_size] at h; exact h)
  have HK1 := Lib.hid hK1
  clear hK1
  have e0 : wd w [] w.drawn = wd (lset w p (k : Int)) [] w.drawn := by rw [lset_self h]
  have hcl := splitC_len_le 32 s
  rw [hdr]
  by_cases h7 : (splitC 32 s).length = 7
  · have HEACH := splitC_each 32 s
    obtain ⟨v1, hv1⟩ : ∃ x, (splitC 32 s)[1]? = some x := ⟨_, List.getElem?_eq_getElem (by omega)⟩
    obtain ⟨v2, hv2⟩ : ∃ x, (splitC 32 s)[2]? = some x := ⟨_, List.getElem?_eq_getElem (by omega)⟩
    obtain ⟨v3, hv3⟩ : ∃ x, (splitC 32 s)[3]? = some x := ⟨_, List.getElem?_eq_getElem (by omega)⟩
    obtain ⟨v4, hv4⟩ : ∃ x, (splitC 32 s)[4]? = some x := ⟨_, List.getElem?_eq_getElem (by omega)⟩
    obtain ⟨v5, hv5⟩ : ∃ x, (splitC 32 s)[5]? = some x := ⟨_, List.getElem?_eq_getElem (by omega)⟩
    obtain ⟨v6, hv6⟩ : ∃ x, (splitC 32 s)[6]? = some x := ⟨_, List.getElem?_eq_getElem (by omega)⟩
    have g1 := HEACH v1 (List.mem_of_getElem? hv1)
    have g2 := HEACH v2 (List.mem_of_getElem? hv2)
    have g3 := HEACH v3 (List.mem_of_getElem? hv3)
    have g4 := HEACH v4 (List.mem_of_getElem? hv4)
    have g5 := HEACH v5 (List.mem_of_getElem? hv5)
    have g6 := HEACH v6 (List.mem_of_getElem? hv6)
    have hB : headOf (splitC 32 s) = ⟨numD v1, numD v2, numD v3, numD v4, numD v5, []⟩ := by unfold headOf; rw [hv1, hv2, hv3, hv4, hv5]; rfl
    have hn : sizeOfW (splitC 32 s) = numD v6 := by unfold sizeOfW; rw [hv6]; rfl
    have hno := fun hf => readBat_no (ls := ls.drop (k + 1)) h7 hB hn hf
    have hon := fun hf hm => readBat_on (ls := ls.drop (k + 1)) h7 hB hn hf hm
    clear hB hn
    obtain ⟨ws, hws⟩ : ∃ ws, splitC 32 s = ws := ⟨_, rfl⟩
    rw [hws] at HSP h7 hv1 hv2 hv3 hv4 hv5 hv6
    have c1 := cells_row ws 1 v1 hv1
    have c2 := cells_row ws 2 v2 hv2
    have c3 := cells_row ws 3 v3 hv3
    have c4 := cells_row ws 4 v4 hv4
    have c5 := cells_row ws 5 v5 hv5
    have c6 := cells_row ws 6 v6 hv6
    rw [h7] at HSP
    obtain ⟨C, hC⟩ : ∃ C, (ws.flatMap strCell).toArray = C := ⟨_, rfl⟩
    rw [hC] at HSP c1 c2 c3 c4 c5 c6
    have f1 := numFit_of v1
    have f2 := numFit_of v2
    have f3 := numFit_of v3
    have f4 := numFit_of v4
    have f5 := numFit_of v5
    have f6 := numFit_of v6
    have H1 := Lib.hid (fun W => number_any v1 W (by omega))
    have H2 := Lib.hid (fun W => number_any v2 W (by omega))
    have H3 := Lib.hid (fun W => number_any v3 W (by omega))
    have H4 := Lib.hid (fun W => number_any v4 W (by omega))
    have H5 := Lib.hid (fun W => number_any v5 W (by omega))
    have H6 := Lib.hid (fun W => number_any v6 W (by omega))
    obtain ⟨D1, hD1⟩ : ∃ D, numD v1 = D := ⟨_, rfl⟩
    obtain ⟨D2, hD2⟩ : ∃ D, numD v2 = D := ⟨_, rfl⟩
    obtain ⟨D3, hD3⟩ : ∃ D, numD v3 = D := ⟨_, rfl⟩
    obtain ⟨D4, hD4⟩ : ∃ D, numD v4 = D := ⟨_, rfl⟩
    obtain ⟨D5, hD5⟩ : ∃ D, numD v5 = D := ⟨_, rfl⟩
    obtain ⟨NN, hD6⟩ : ∃ D, numD v6 = D := ⟨_, rfl⟩
    rw [hD1] at H1 f1
    rw [hD2] at H2 f2
    rw [hD3] at H3 f3
    rw [hD4] at H4 f4
    rw [hD5] at H5 f5
    rw [hD6] at H6 f6
    rw [hD1, hD2, hD3, hD4, hD5, hD6] at hno hon
    have HF := Lib.hid (fun W => first_any ⟨D1, D2, D3, D4, D5, []⟩ none 0 NN W (by show 0 ≤ maxLen; decide) ⟨f1, f2, f3, f4, f5⟩ f6)
    have HM0 := Lib.hid (fun W => may_any ⟨D1, D2, D3, D4, D5, []⟩ none 0 NN W (RowAt.nil _) (by show 0 ≤ 32; decide) (by intro r hr; cases hr))
    have HM := Lib.hid (fun (cur : List Rec) (a' : Option Addr) (c' : Nat) (N : Nat) W (hr : RecsAt W a' cur) (hN : cur.length = N) (hl : N ≤ 32) (hd : ∀ r ∈ cur, NumFit r.delta) => hN ▸ may_any ⟨D1, D2, D3, D4, D5, cur⟩ a' c' NN W hr (by show cur.length ≤ 32; omega) hd)
    have HNO := Lib.hid hno
    have HON := Lib.hid hon
    dsimp only [List.length_nil] at HF HM0 HM
    obtain ⟨FL, hFL⟩ : ∃ FL, firstLine ⟨D1, D2, D3, D4, D5, []⟩ NN = FL := ⟨_, rfl⟩
    rw [hFL] at HF HNO HON
    clear hno hon HEACH hws h7 hv1 hv2 hv3 hv4 hv5 hv6 g1 g2 g3 g4 g5 g6 hC hD1 hD2 hD3 hD4 hD5 hD6 hFL f1 f2 f3 f4 f5 f6 hcl
    have hp := h.lt
    by_cases hq : FL = s
    · have hqq : ((str FL).toList == (str s).toList) = true := by rw [hq]; simp
      obtain ⟨MB, hMB⟩ : ∃ MB, mayB ⟨D1, D2, D3, D4, D5, []⟩ NN = MB := ⟨_, rfl⟩
      cases MB with
      | false =>
        rw [hMB] at HM0
        have HR := Lib.hid (HNO.out (.inr hMB))
        clear hMB hq
        refine calls_wd ?_
        rw [e0]
        go_enter Tryd.func39, Tryd.ntmps39
        go_wp2_with (first | (go_at_call 53; ((with_reducible refine (HN1.out _ _).mono ?_); rintro e w1 ⟨rfl, mm0, rfl⟩)) | (go_at_call 37; ((with_reducible refine (HSP.out _ _).mono ?_); rintro e w1 ⟨rfl, rfl⟩)))
        refine wp_region_new [0, 1, 2, 3, 4, 5, 6, 7, 8, 9, 10, 11, 12, 13, 14, 15, 16, 17, 18, 19, 20] 21 7 [22] [true, true, true, true, true, true, true, true, true, true, true, true, true, true, true, true, true, true, true, true, true] [false, false, false, false, false, false, false, false, false, false, false, false, false, false, false, false, false, false, false, false, false, false, true] (fun b => .pointer (some ⟨b, 0, none⟩)) (.cells #[.int .i64 0, .int .i64 0, .int .i64 0, .int .i64 0, .int .i64 0, .slice none 0 0] 35) ⟨rfl, rfl⟩ (by kernel_rfl) (by kernel_rfl) (fun _ _ d _ _ h => by cases d <;> exact h) ⟨_, _, _, _, rfl⟩ ?_
        apply Exists.intro
        refine ⟨?_, ?_, ?_⟩
        · intro E
          simp only [sel_t, sel_f, sel_n]
          repeat (go_big_quiet_step ((first | (go_at_call 54; with_reducible exact Calls.wd_of (H1.out _)) | (go_at_call 54; with_reducible exact Calls.wd_of (H2.out _)) | (go_at_call 54; with_reducible exact Calls.wd_of (H3.out _)) | (go_at_call 54; with_reducible exact Calls.wd_of (H4.out _)) | (go_at_call 54; with_reducible exact Calls.wd_of (H5.out _)))))
          exact wpQuiet_nil rfl
        · intro o ho w0; obtain rfl := Option.some.inj ho; go_simp
        intro e0 m0
        simp only [sel_t, sel_f, sel_n, put_lit, List.set_cons_succ, List.set_cons_zero, shape_cons, shape_nil]
        go_wp2_with (first | (go_at_call 54; ((with_reducible refine (H6.out _).mono ?_); rintro e w1 ⟨rfl, x1, n1, rfl⟩)) | (go_at_call 30; ((with_reducible refine (HF.out _).mono ?_); rintro e w1 ⟨rfl, x2, n2, rfl⟩)) | (go_at_call 55; ((with_reducible refine (HM0.out _).mono ?_); rintro e w1 ⟨rfl, x3, n3, rfl⟩)))
        refine bodyPost_ret (v := .tuple #[.agg #[.int .i64 0, .int .i64 0, .int .i64 0, .int .i64 0, .int .i64 0, .slice none 0 0], .bool false]) (by simp [results, Tryd.results39, go_sem]) rfl ?_
        exact rbret_no HR.out HK1.out.symm
      | true =>
        have hmay : 0 ≤ NN ∧ NN ≤ 32 := by
          unfold mayB at hMB
          simp only [Bool.and_eq_true, decide_eq_true_eq] at hMB
          omega
        rw [hMB] at HM0
        obtain ⟨N, rfl⟩ : ∃ N : Nat, NN = N := ⟨NN.toNat, by omega⟩
        have hN32 : N ≤ 32 := by omega
        have HR := Lib.hid (HON.out hq hMB)
        rw [Int.toNat_natCast] at HR
        obtain ⟨RR, hRR⟩ : ∃ RR, readBat (s :: ls.drop (k + 1)) = RR := ⟨_, rfl⟩
        rw [hRR] at HR ⊢
        have HLS := Lib.hid (fun (j : Nat) (x : List UInt8) (hx : ls[k + 1 + j]? = some x) => (show (ls.drop (k + 1)).drop j = x :: (ls.drop (k + 1)).drop (j + 1) by rw [List.drop_drop, List.drop_drop]; exact drop_at ls (k + 1 + j) x hx))
        have HLE := Lib.hid (fun (j : Nat) (hj : ls.length ≤ k + 1 + j) => (show (ls.drop (k + 1)).drop j = [] by rw [List.drop_drop]; exact List.drop_eq_nil_of_le hj))
        have HNX : Hid (∀ (j K K' : Nat), K = k + 1 + j → K' = K + 1 → ∀ x, ls[k + 1 + j]? = some x → ∀ L n, Calls Tryd.prog 53 #[.pointer (some ⟨p, 0, none⟩)] (wd (lset w p (K : Int)) L n) fun e w' => e = .returned (.tuple #[.string (str x), .bool true]) ∧ ∃ m : Ext, w' = wd (lset w p (K' : Int)) (m.e :: L) m.n) := Lib.hid (fun j K K' hK hK' x hx L n => by subst hK hK'; exact next_yes_at h (by omega) (k + 1 + j) x hx L n)
        have HNE : Hid (∀ (j K : Nat), K = k + 1 + j → ls.length ≤ k + 1 + j → ∀ L n, Calls Tryd.prog 53 #[.pointer (some ⟨p, 0, none⟩)] (wd (lset w p (K : Int)) L n) fun e w' => e = .returned (.tuple #[.string { data := #[] }, .bool false]) ∧ ∃ m : Ext, w' = wd (lset w p (K : Int)) (m.e :: L) m.n) := Lib.hid (fun j K hK hj L n => by subst hK; exact next_no_at h (by omega) (k + 1 + j) hj L n)
        have HPC := Lib.hid (fun K : Nat => (h.lset K).c1)
        have HPF := Lib.hid (fun K : Nat => (h.lset K).f 1)
        have HGET := Lib.hid (fun (j : Nat) (hj : k + 1 + j < ls.length) => (⟨_, List.getElem?_eq_getElem hj, heach _ (List.getElem_mem hj)⟩ : ∃ x, ls[k + 1 + j]? = some x ∧ x.length ≤ 65536))
        obtain ⟨i0, hi, hz0, hz1, hz2⟩ := info_parts info_recs
        clear hMB hq hRR hmay HNO HON
        refine calls_wd ?_
        rw [e0]
        clear e0 hdr hx h heach
        go_enter Tryd.func39, Tryd.ntmps39
        go_wp2_with (first | (go_at_call 53; ((with_reducible refine (HN1.out _ _).mono ?_); rintro e w1 ⟨rfl, mm0, rfl⟩)) | (go_at_call 37; ((with_reducible refine (HSP.out _ _).mono ?_); rintro e w1 ⟨rfl, rfl⟩)))
        refine wp_region_new [0, 1, 2, 3, 4, 5, 6, 7, 8, 9, 10, 11, 12, 13, 14, 15, 16, 17, 18, 19, 20] 21 7 [22] [true, true, true, true, true, true, true, true, true, true, true, true, true, true, true, true, true, true, true, true, true] [false, false, false, false, false, false, false, false, false, false, false, false, false, false, false, false, false, false, false, false, false, false, true] (fun b => .pointer (some ⟨b, 0, none⟩)) (.cells #[.int .i64 0, .int .i64 0, .int .i64 0, .int .i64 0, .int .i64 0, .slice none 0 0] 35) ⟨rfl, rfl⟩ (by kernel_rfl) (by kernel_rfl) (fun _ _ d _ _ h => by cases d <;> exact h) ⟨_, _, _, _, rfl⟩ ?_
        apply Exists.intro
        refine ⟨?_, ?_, ?_⟩
        · intro E
          simp only [sel_t, sel_f, sel_n]
          repeat (go_big_quiet_step ((first | (go_at_call 54; with_reducible exact Calls.wd_of (H1.out _)) | (go_at_call 54; with_reducible exact Calls.wd_of (H2.out _)) | (go_at_call 54; with_reducible exact Calls.wd_of (H3.out _)) | (go_at_call 54; with_reducible exact Calls.wd_of (H4.out _)) | (go_at_call 54; with_reducible exact Calls.wd_of (H5.out _)))))
          exact wpQuiet_nil rfl
        · intro o ho w0; obtain rfl := Option.some.inj ho; go_simp
        intro e0 m0
        simp only [sel_t, sel_f, sel_n, put_lit, List.set_cons_succ, List.set_cons_zero, shape_cons, shape_nil]
        go_wp2_with (first | (go_at_call 54; ((with_reducible refine (H6.out _).mono ?_); rintro e w1 ⟨rfl, x1, n1, rfl⟩)) | (go_at_call 30; ((with_reducible refine (HF.out _).mono ?_); rintro e w1 ⟨rfl, x2, n2, rfl⟩)) | (go_at_call 55; ((with_reducible refine (HM0.out _).mono ?_); rintro e w1 ⟨rfl, x3, n3, rfl⟩)))
        go_loopw [65] (fun i wr => ∃ (j K : Nat) (cur : List Rec) (m : Ext) (a' : Option Addr) (c' : Nat), j ≤ N ∧ K ≤ 200000 ∧ Hid (K = k + 1 + j) ∧ i = .int .i64 j ∧ Hid (cur.length = j) ∧ Hid (readRecs N (N - j) ⟨D1, D2, D3, D4, D5, cur⟩ ((ls.drop (k + 1)).drop j) (1 + j) = RR) ∧ Hid (∀ r ∈ cur, NumFit r.delta) ∧ Hid (rowIn w.heap.size [1, e0.size, 1, mm0.e.size, 1] m.e 71 6 (.slice a' j c') j (cur.flatMap recCells)) ∧
          wr = wd (lset w p (K : Int)) [m.e, bbox D1 D2 D3 D4 D5 a' j c', e0, #[.cells C 9], mm0.e, bres] m.n) (fun i _ => N - (intOf i).toNat)
        case atStart => exact ⟨0, K1, [], ⟨m0.e ++ (x1 ++ (x2 ++ x3)), n3⟩, none, 0, Nat.zero_le _, by have := HK1.out; omega, Lib.hid HK1.out.symm, rfl, Lib.hid rfl, Lib.hid HR.out.symm, Lib.hid (by intro r hr; cases hr), Lib.hid (rowIn_nil _ _ _ _ _), by rw [wd_merge4]⟩
        case round =>
          obtain ⟨j, K, cur, m, a', c', hj, hKb, HKJ, rfl, HCL, HRR, HND, HROW, rfl⟩ := hrel
          by_cases hlt : j < N
          · obtain ⟨t, ht⟩ : ∃ t, N - j = t + 1 := ⟨N - j - 1, by omega⟩
            rw [ht] at HRR
            by_cases hend : ls.length ≤ k + 1 + j
            · have HRZ := Lib.hid HRR.out
              rw [HLE.out j hend, readRecs] at HRZ
              have HE := Lib.hid (HNE.out j K HKJ.out hend)
              have hpp := HPC.out K
              have hpf := HPF.out K
              have hps : p < (lset w p (K : Int)).heap.size := by rw [lset_size]; exact hp
              have E9 : Hid ((lset w p (K : Int)).setCell ⟨p, 1, none⟩ (.int .i64 ((K : Int) + 1)) = lset w p ((K + 1 : Nat) : Int)) := Lib.hid (lset_lset w p _ _)
              clear HRR
              go_wp2_with (first | (go_at_call 53; ((with_reducible refine (HE.out _ _).mono ?_); rintro e w1 ⟨rfl, mx, rfl⟩)))
              refine bodyPost_ret (v := .tuple #[.agg #[.int .i64 0, .int .i64 0, .int .i64 0, .int .i64 0, .int .i64 0, .slice none 0 0], .bool false]) (by simp [results, Tryd.results39, go_sem]) rfl ?_
              rw [E9.out]
              exact rbret_no HRZ.out.symm (by have := HKJ.out; omega)
            · obtain ⟨y, hy, hyl⟩ := HGET.out j (by omega)
              obtain ⟨K', hK'⟩ : ∃ K', K' = K + 1 := ⟨_, rfl⟩
              have HX := Lib.hid (HNX.out j K K' HKJ.out hK' y hy)
              have HKK := Lib.hid hK'
              clear hK'
              have HLY := Lib.hid (HLS.out j y hy)
              rw [HLY.out] at HRR
              have HRC := Lib.hid (fun W => record_any y W hyl)
              have HFIT := Lib.hid (recOf_fit y)
              have HBAD := Lib.hid (fun hh => HRR.out.symm.trans (readRecs_bad hh))
              have HGOOD := Lib.hid (fun hh => HRR.out.symm.trans (readRecs_good hh))
              clear hy hyl HLY HRR
              obtain ⟨RO, hRO⟩ : ∃ g, recOf y = g := ⟨_, rfl⟩
              rw [hRO] at HRC HFIT HBAD HGOOD
              clear hRO
              obtain ⟨⟨rd, rt, rky, rkey, rdd, rval⟩, rok⟩ := RO
              unfold Bat.put at HBAD HGOOD
              dsimp only at HRC HFIT HBAD HGOOD
              have HCL1 : Hid ((cur ++ [(⟨rd, rt, rky, rkey, rdd, rval⟩ : Rec)]).length = j + 1) := Lib.hid (by rw [List.length_append, HCL.out]; rfl)
              have HND1 : Hid (∀ r ∈ cur ++ [(⟨rd, rt, rky, rkey, rdd, rval⟩ : Rec)], NumFit r.delta) := Lib.hid (by
                intro r hr
                rcases List.mem_append.1 hr with hr | hr
                · exact HND.out r hr
                · simp at hr; subst hr; exact HFIT.out)
              have HMJ := Lib.hid (fun (a9 : Option Addr) (c9 : Nat) W (hW : RecsAt W a9 (cur ++ [(⟨rd, rt, rky, rkey, rdd, rval⟩ : Rec)])) => HM.out _ a9 c9 (j + 1) W hW HCL1.out (by omega) HND1.out)
              cases rok with
              | false =>
                have HZ := Lib.hid (HBAD.out rfl)
                go_wp2_with (first | (go_at_call 53; ((with_reducible refine (HX.out _ _).mono ?_); rintro e w1 ⟨rfl, mx, rfl⟩)) | (go_at_call 56; ((with_reducible refine (HRC.out _).mono ?_); rintro e w1 hrr; obtain ⟨rfl, x5, n5, rfl⟩ := hrr.out; clear hrr)) | (at_builtin; refine wp_append_rowB w.heap.size [#[.cells _ _], x5, mx.e] rfl _ _ _ rfl 71 i0 _ 6 64 Tryd.underlying33 hi hz0 hz1 hz2 rfl (by decide) (L := [bbox D1 D2 D3 D4 D5 a' j c', e0, #[.cells C 9], mm0.e, bres]) (lset_size _ _ _) (.slice a' j c') j _ rfl HROW.out _ _ 1 1 rfl rfl (by simp [Value.oneCell']) (by unfold maxLen; omega) (by omega) ?_; intro v9 m9 hr9; obtain ⟨a9, c9, rfl⟩ := rowIn_slice hr9; have HR9 : Hid (rowIn w.heap.size [1, e0.size, 1, mm0.e.size, 1] m9.e 71 6 (.slice a9 (j + 1) c9) (j + 1) ((cur ++ [(⟨rd, rt, rky, rkey, rdd, rval⟩ : Rec)]).flatMap recCells)) := Lib.hid (by rw [flat_rec]; exact hr9); clear hr9))
                refine bodyPost_ret (v := .tuple #[.agg #[.int .i64 0, .int .i64 0, .int .i64 0, .int .i64 0, .int .i64 0, .slice none 0 0], .bool false]) (by simp [results, Tryd.results39, go_sem]) rfl ?_
                exact rbret_no HZ.out (by have := HKJ.out; have := HKK.out; omega)
              | true =>
                obtain ⟨MB, hMB⟩ : ∃ MB, mayB ⟨D1, D2, D3, D4, D5, cur ++ [(⟨rd, rt, rky, rkey, rdd, rval⟩ : Rec)]⟩ (N : Int) = MB := ⟨_, rfl⟩
                rw [hMB] at HMJ HBAD HGOOD
                clear hMB
                cases MB with
                | false =>
                  have HZ := Lib.hid (HBAD.out rfl)
                  go_wp2_with (first | (go_at_call 53; ((with_reducible refine (HX.out _ _).mono ?_); rintro e w1 ⟨rfl, mx, rfl⟩)) | (go_at_call 56; ((with_reducible refine (HRC.out _).mono ?_); rintro e w1 hrr; obtain ⟨rfl, x5, n5, rfl⟩ := hrr.out; clear hrr)) | (at_builtin; refine wp_append_rowB w.heap.size [#[.cells _ _], x5, mx.e] rfl _ _ _ rfl 71 i0 _ 6 64 Tryd.underlying33 hi hz0 hz1 hz2 rfl (by decide) (L := [bbox D1 D2 D3 D4 D5 a' j c', e0, #[.cells C 9], mm0.e, bres]) (lset_size _ _ _) (.slice a' j c') j _ rfl HROW.out _ _ 1 1 rfl rfl (by simp [Value.oneCell']) (by unfold maxLen; omega) (by omega) ?_; intro v9 m9 hr9; obtain ⟨a9, c9, rfl⟩ := rowIn_slice hr9; have HR9 : Hid (rowIn w.heap.size [1, e0.size, 1, mm0.e.size, 1] m9.e 71 6 (.slice a9 (j + 1) c9) (j + 1) ((cur ++ [(⟨rd, rt, rky, rkey, rdd, rval⟩ : Rec)]).flatMap recCells)) := Lib.hid (by rw [flat_rec]; exact hr9); clear hr9) | (go_at_call 55; ((with_reducible refine (HMJ.out _ _ _ ?_).mono ?_); (exact recs_of_row (lset_size _ _ _) HCL1.out HR9.out); rintro e w1 ⟨rfl, x6, n6, rfl⟩)))
                  refine bodyPost_ret (v := .tuple #[.agg #[.int .i64 0, .int .i64 0, .int .i64 0, .int .i64 0, .int .i64 0, .slice none 0 0], .bool false]) (by simp [results, Tryd.results39, go_sem]) rfl ?_
                  exact rbret_no HZ.out (by have := HKJ.out; have := HKK.out; omega)
                | true =>
                  have HZ := Lib.hid (HGOOD.out rfl)
                  go_wp2_with (first | (go_at_call 53; ((with_reducible refine (HX.out _ _).mono ?_); rintro e w1 ⟨rfl, mx, rfl⟩)) | (go_at_call 56; ((with_reducible refine (HRC.out _).mono ?_); rintro e w1 hrr; obtain ⟨rfl, x5, n5, rfl⟩ := hrr.out; clear hrr)) | (at_builtin; refine wp_append_rowB w.heap.size [#[.cells _ _], x5, mx.e] rfl _ _ _ rfl 71 i0 _ 6 64 Tryd.underlying33 hi hz0 hz1 hz2 rfl (by decide) (L := [bbox D1 D2 D3 D4 D5 a' j c', e0, #[.cells C 9], mm0.e, bres]) (lset_size _ _ _) (.slice a' j c') j _ rfl HROW.out _ _ 1 1 rfl rfl (by simp [Value.oneCell']) (by unfold maxLen; omega) (by omega) ?_; intro v9 m9 hr9; obtain ⟨a9, c9, rfl⟩ := rowIn_slice hr9; have HR9 : Hid (rowIn w.heap.size [1, e0.size, 1, mm0.e.size, 1] m9.e 71 6 (.slice a9 (j + 1) c9) (j + 1) ((cur ++ [(⟨rd, rt, rky, rkey, rdd, rval⟩ : Rec)]).flatMap recCells)) := Lib.hid (by rw [flat_rec]; exact hr9); clear hr9) | (go_at_call 55; ((with_reducible refine (HMJ.out _ _ _ ?_).mono ?_); (exact recs_of_row (lset_size _ _ _) HCL1.out HR9.out); rintro e w1 ⟨rfl, x6, n6, rfl⟩)))
                  go_roundw
                  case rel => exact ⟨j + 1, K', cur ++ [(⟨rd, rt, rky, rkey, rdd, rval⟩ : Rec)], ⟨m9.e ++ x6, n6⟩, a9, c9, by omega, by have := HKK.out; have := HKJ.out; omega, Lib.hid (by have := HKJ.out; have := HKK.out; omega), by go_num, HCL1, Lib.hid (by rw [show N - (j + 1) = t by omega, show 1 + (j + 1) = 1 + j + 1 by omega]; exact HZ.out.symm), HND1, Lib.hid (rowIn_more HR9.out x6), by rw [wd_merge]⟩
                  case measure => simp [intOf]; omega
          · have hjN : j = N := by omega
            subst hjN
            have HRZ := Lib.hid HRR.out
            rw [Nat.sub_self, readRecs] at HRZ
            clear HRR
            go_wp2
            refine bodyPost_ret (v := .tuple #[.agg #[.int .i64 D1, .int .i64 D2, .int .i64 D3, .int .i64 D4, .int .i64 D5, .slice a' j c'], .bool true]) (by simp [results, Tryd.results39, go_sem]) rfl ?_
            exact rbret_yes HCL.out HRZ.out.symm (by have := HKJ.out; omega) HROW.out
    · have hqq : ((str FL).toList == (str s).toList) = false := by rw [str_eq]; exact decide_eq_false hq
      have HR := Lib.hid (HNO.out (.inl hq))
      clear hq
      refine calls_wd ?_
      rw [e0]
      go_enter Tryd.func39, Tryd.ntmps39
      go_wp2_with (first | (go_at_call 53; ((with_reducible refine (HN1.out _ _).mono ?_); rintro e w1 ⟨rfl, mm0, rfl⟩)) | (go_at_call 37; ((with_reducible refine (HSP.out _ _).mono ?_); rintro e w1 ⟨rfl, rfl⟩)))
      refine wp_region_new [0, 1, 2, 3, 4, 5, 6, 7, 8, 9, 10, 11, 12, 13, 14, 15, 16, 17, 18, 19, 20] 21 7 [22] [true, true, true, true, true, true, true, true, true, true, true, true, true, true, true, true, true, true, true, true, true] [false, false, false, false, false, false, false, false, false, false, false, false, false, false, false, false, false, false, false, false, false, false, true] (fun b => .pointer (some ⟨b, 0, none⟩)) (.cells #[.int .i64 0, .int .i64 0, .int .i64 0, .int .i64 0, .int .i64 0, .slice none 0 0] 35) ⟨rfl, rfl⟩ (by kernel_rfl) (by kernel_rfl) (fun _ _ d _ _ h => by cases d <;> exact h) ⟨_, _, _, _, rfl⟩ ?_
      apply Exists.intro
      refine ⟨?_, ?_, ?_⟩
      · intro E
        simp only [sel_t, sel_f, sel_n]
        repeat (go_big_quiet_step ((first | (go_at_call 54; with_reducible exact Calls.wd_of (H1.out _)) | (go_at_call 54; with_reducible exact Calls.wd_of (H2.out _)) | (go_at_call 54; with_reducible exact Calls.wd_of (H3.out _)) | (go_at_call 54; with_reducible exact Calls.wd_of (H4.out _)) | (go_at_call 54; with_reducible exact Calls.wd_of (H5.out _)))))
        exact wpQuiet_nil rfl
      · intro o ho w0; obtain rfl := Option.some.inj ho; go_simp
      intro e0 m0
      simp only [sel_t, sel_f, sel_n, put_lit, List.set_cons_succ, List.set_cons_zero, shape_cons, shape_nil]
      go_wp2_with (first | (go_at_call 54; ((with_reducible refine (H6.out _).mono ?_); rintro e w1 ⟨rfl, x1, n1, rfl⟩)) | (go_at_call 30; ((with_reducible refine (HF.out _).mono ?_); rintro e w1 ⟨rfl, x2, n2, rfl⟩)) | (go_at_call 55; ((with_reducible refine (HM0.out _).mono ?_); rintro e w1 ⟨rfl, x3, n3, rfl⟩)))
      refine bodyPost_ret (v := .tuple #[.agg #[.int .i64 0, .int .i64 0, .int .i64 0, .int .i64 0, .int .i64 0, .slice none 0 0], .bool false]) (by simp [results, Tryd.results39, go_sem]) rfl ?_
      exact rbret_no HR.out HK1.out.symm
  · have HR := Lib.hid (readBat_len (ls := ls.drop (k + 1)) h7)
    obtain ⟨ws, hws⟩ : ∃ ws, splitC 32 s = ws := ⟨_, rfl⟩
    rw [hws] at HSP h7 hcl
    obtain ⟨C, hC⟩ : ∃ C, (ws.flatMap strCell).toArray = C := ⟨_, rfl⟩
    rw [hC] at HSP
    obtain ⟨N, hN⟩ : ∃ N, ws.length = N := ⟨_, rfl⟩
    rw [hN] at HSP h7 hcl
    have h7' : ((N : Int) == 7) = false := by rw [beq_eq_false_iff_ne]; omega
    have hp := h.lt
    clear hws hC hN h7
    refine calls_wd ?_
    rw [e0]
    go_enter Tryd.func39, Tryd.ntmps39
    go_wp2_with (first | (go_at_call 53; ((with_reducible refine (HN1.out _ _).mono ?_); rintro e w1 ⟨rfl, mm0, rfl⟩)) | (go_at_call 37; ((with_reducible refine (HSP.out _ _).mono ?_); rintro e w1 ⟨rfl, rfl⟩)))
    refine bodyPost_ret (v := .tuple #[.agg #[.int .i64 0, .int .i64 0, .int .i64 0, .int .i64 0, .int .i64 0, .slice none 0 0], .bool false]) (by simp [results, Tryd.results39, go_sem]) rfl ?_
    exact rbret_no HR.out HK1.out.symm
end Go.Proofs.YtejokhgabcldhaaDoor
