/- compact: late, keeps and the closure of Clean. -/
import Derived.Test.YtlanghikmccmbaaHA
import Derived.Test.YtlanghikmccmbaaHB
import Derived.Test.YtlanghikmccmbaaGB
namespace Go.Proofs.Ytlanghikmccmbaa
open Go.ChangeShapes Go.WideShapes Go.ChangeAt Go.RowKit Go.Maps
set_option linter.unusedVariables false
set_option linter.unusedSimpArgs false
abbrev recA (r : Rec) : Value := .agg #[.int .i64 r.delta, .int .i64 r.time, .bool r.keyed, .string (str r.key), .bool r.dead, .string (str r.value)]
set_option maxRecDepth 100000 in
theorem late_any (mb : Option Nat) (gr : Int) (r : Rec) (w : World) : Calls Try.prog 88 #[.agg #[.map mb, .int .i64 (-1), .int .i64 gr], recA r] w fun e w' => e = .returned (.bool false) ∧ More w w' := by
  obtain ⟨rd, rt, rk, rkey, rdead, rval⟩ := r
  cases rdead with
  | false =>
    refine calls_wd ?_
    go_enter Try.func88, Try.ntmps88
    go_wp2
    go_ret
    exact ⟨rfl, more_wd _ _ _⟩
  | true =>
    refine calls_wd ?_
    go_enter Try.func88, Try.ntmps88
    go_wp2
    go_ret
    exact ⟨rfl, more_wd _ _ _⟩
set_option maxRecDepth 100000 in
set_option maxHeartbeats 800000 in
theorem keeps_any (mb : Option Nat) (gr b0 b1 b2 b3 b4 : Int) (xa : Option Addr) (n xc : Nat) (r : Rec) (V : Int) (w : World) (h0 : 0 ≤ b0) (h1 : b0 ≤ 4611686018427387903) (h2 : -1 ≤ r.delta) (h3 : r.delta ≤ 1000)
    (hq : ∀ L k, (Instr.lookup 70 (.map mb) (.string (str r.key)) false).run Try.prog (wd w L k) = .ok (.int .i64 V) (wd w L k)) :
    Calls Try.prog 63 #[.agg #[.map mb, .int .i64 (-1), .int .i64 gr], .agg #[.int .i64 b0, .int .i64 b1, .int .i64 b2, .int .i64 b3, .int .i64 b4, .slice xa n xc], recA r] w fun e w' => e = .returned (.bool (!r.keyed || decide (b0 + r.delta = V))) ∧ More w w' := by
  have HLA := Lib.hid (fun W => late_any mb gr r W)
  obtain ⟨rd, rt, rk, rkey, rdead, rval⟩ := r
  dsimp only at h2 h3 hq HLA ⊢
  cases rk with
  | false =>
    clear hq
    refine calls_wd ?_
    go_enter Try.func63, Try.ntmps63
    go_wp2
    go_ret
    exact ⟨rfl, more_wd _ _ _⟩
  | true =>
    by_cases hv : b0 + rd = V
    · have hb : ((b0 + rd) == V) = true := by rw [beq_iff_eq]; exact hv
      have hR : (!true || decide (b0 + rd = V)) = true := by rw [decide_eq_true hv]; rfl
      rw [hR]
      subst hv
      refine calls_wd ?_
      go_enter Try.func63, Try.ntmps63
      go_wp2_with (first | (go_at_call 88; ((with_reducible refine (HLA.out _).mono ?_); rintro e w1 ⟨rfl, x1, n1, rfl⟩)))
      go_ret
      exact ⟨rfl, more_wd _ _ _⟩
    · have hb : ((b0 + rd) == V) = false := by rw [beq_eq_false_iff_ne]; exact hv
      have hR : (!true || decide (b0 + rd = V)) = false := by rw [decide_eq_false hv]; rfl
      rw [hR]
      refine calls_wd ?_
      go_enter Try.func63, Try.ntmps63
      go_wp2
      go_ret
      exact ⟨rfl, more_wd _ _ _⟩
set_option maxRecDepth 100000 in
set_option maxHeartbeats 800000 in
theorem clean1_any (c q : Nat) (mb : Option Nat) (gr b0 b1 b2 b3 b4 : Int) (xa : Option Addr) (n xc : Nat) (r : Rec) (V : Int) (w : World) (h0 : 0 ≤ b0) (h1 : b0 ≤ 4611686018427387903) (h2 : -1 ≤ r.delta) (h3 : r.delta ≤ 1000)
    (hc0 : w.cell? ⟨c, 0, none⟩ = some (.map mb)) (hc1 : w.cell? ⟨c, 1, none⟩ = some (.int .i64 (-1))) (hc2 : w.cell? ⟨c, 2, none⟩ = some (.int .i64 gr)) (hcs : c < w.heap.size)
    (hb0 : w.cell? ⟨q, 0, none⟩ = some (.int .i64 b0)) (hb1 : w.cell? ⟨q, 1, none⟩ = some (.int .i64 b1)) (hb2 : w.cell? ⟨q, 2, none⟩ = some (.int .i64 b2)) (hb3 : w.cell? ⟨q, 3, none⟩ = some (.int .i64 b3)) (hb4 : w.cell? ⟨q, 4, none⟩ = some (.int .i64 b4)) (hb5 : w.cell? ⟨q, 5, none⟩ = some (.slice xa n xc)) (hqs : q < w.heap.size)
    (hq : ∀ W, More w W → (Instr.lookup 70 (.map mb) (.string (str r.key)) false).run Try.prog W = .ok (.int .i64 V) W) :
    Calls Try.prog 62 #[recA r, .pointer (some ⟨c, 0, none⟩), .pointer (some ⟨q, 0, none⟩)] w fun e w' => e = .returned (.bool (!(!r.keyed || decide (b0 + r.delta = V)))) ∧ More w w' := by
  have HK := Lib.hid (fun W (hm : More w W) => keeps_any mb gr b0 b1 b2 b3 b4 xa n xc r V W h0 h1 h2 h3 (fun L k => hq _ (hm.trans (more_wd _ _ _))))
  obtain ⟨R, hR⟩ : ∃ R, (!r.keyed || decide (b0 + r.delta = V)) = R := ⟨_, rfl⟩
  rw [hR] at HK ⊢
  obtain ⟨rd, rt, rk, rkey, rdead, rval⟩ := r
  try dsimp only at HK
  clear hq hR h2 h3
  refine calls_wd ?_
  go_enter Try.func62, Try.ntmps62
  go_wp2_with (first | (go_at_call 63; ((with_reducible refine (HK.out _ (more_wd _ _ _)).mono ?_); rintro e w1 ⟨rfl, x1, n1, rfl⟩)))
  go_ret
  exact ⟨rfl, more_wd _ _ _⟩
/-- Records handed back in the piece above L. -/
structure DelWq (w w' : World) (e : Ending) (L : List (Array Obj)) (l : List Rec) : Prop where
  out : ∃ (a : Option Addr) (c : Nat) (m : Ext), e = .returned (.slice a l.length c) ∧ w' = wd w (m.e :: L) m.n ∧ rowIn w.heap.size (shape L) m.e 73 6 (.slice a l.length c) l.length (l.flatMap recCells)
theorem delq_wd {w : World} (f : Nat) (lb : Array Value) (p : Rec → Bool) (L : List (Array Obj)) (top : Array Obj) (n : Nat) (v : Value) (l : List Rec) (hrow : rowIn w.heap.size (shape L) top 73 6 v l.length (l.flatMap recCells)) (hl : l.length ≤ 1000000)
    (hp : ∀ row, sz w.heap.size (shape L) ≤ row → PredQ f lb p row l (wd w (top :: L) n)) (he : ∀ args w, (callFunc f args).run Try.prog w = .ok (.enter f args) w) :
    Calls Try.prog 60 #[v, .func (.func f) #[] lb] (wd w (top :: L) n) fun e w' => DelWq w w' e L (keepQ p l) := by
  refine (delq2 f lb p _ v l _ (owns_of_row hrow) hl hp he).mono ?_
  rintro e w' hs
  obtain ⟨a, c, row, h3, h4, h5, h6⟩ := hs.out
  obtain ⟨m, rfl⟩ := grown_piece (m := 0) h5 h6
  exact ⟨a, c, m, h3, rfl, row_of_owns h4⟩
/-- The closure with its two boxes. -/
abbrev cblk (mb : Nat) (gr : Int) : Array Obj := #[.cells #[.map (some mb), .int .i64 (-1), .int .i64 gr] 106]
theorem pred_clean {w : World} {L0 : List (Array Obj)} {m top : Array Obj} {mb : Nat} {gr b0 b1 b2 b3 b4 : Int} {xa : Option Addr} {M xc n : Nat} {es : List (Int × Rec)} {recs : List Rec} (h0 : 0 ≤ b0) (h1 : b0 ≤ 4611686018427387903) (hr : ∀ r ∈ recs, -1 ≤ r.delta ∧ r.delta ≤ 1000 ∧ r.key.length ≤ maxLen)
    (hmb : mb < sz w.heap.size (shape L0)) (hlk : ∀ W, W.heap[mb]? = (wd w (top :: [qblk b0 b1 b2 b3 b4 xa M xc, m] ++ cblk mb gr :: L0) n).heap[mb]? → ∀ k : List UInt8, k.length ≤ maxLen → (Instr.lookup 70 (.map (some mb)) (.string (str k)) false).run Try.prog W = .ok (.int .i64 (lastO es k)) W)
    (row : Nat) (hrow : sz w.heap.size (shape ([qblk b0 b1 b2 b3 b4 xa M xc, m] ++ cblk mb gr :: L0)) ≤ row) :
    PredQ 62 #[.pointer (some ⟨sz w.heap.size (shape L0), 0, none⟩), .pointer (some ⟨sz w.heap.size (shape (m :: cblk mb gr :: L0)), 0, none⟩)] (fun r => !keepB es (b0 + r.delta, r)) row recs (wd w (top :: [qblk b0 b1 b2 b3 b4 xa M xc, m] ++ cblk mb gr :: L0) n) := by
  refine ⟨enters_of Try.func62 (by kernel_rfl) rfl, fun W r hx hW => ?_⟩
  obtain ⟨r1, r2, r3⟩ := hr r hx
  have hm1 := mid_at w (.cells #[.map (some mb), .int .i64 (-1), .int .i64 gr] 106) L0 n [top, qblk b0 b1 b2 b3 b4 xa M xc, m]
  have hm2 := mid_at w (.cells #[.int .i64 b0, .int .i64 b1, .int .i64 b2, .int .i64 b3, .int .i64 b4, .slice xa M xc] 67) (m :: cblk mb gr :: L0) n [top]
  have l1 : sz w.heap.size (shape L0) < row := by
    have e : sz w.heap.size (shape ([qblk b0 b1 b2 b3 b4 xa M xc, m] ++ cblk mb gr :: L0)) = sz w.heap.size (shape L0) + 1 + m.size + 1 := rfl
    omega
  have l2 : sz w.heap.size (shape (m :: cblk mb gr :: L0)) < row := by
    have e : sz w.heap.size (shape ([qblk b0 b1 b2 b3 b4 xa M xc, m] ++ cblk mb gr :: L0)) = sz w.heap.size (shape (m :: cblk mb gr :: L0)) + 1 := rfl
    omega
  have g1 : W.heap[sz w.heap.size (shape L0)]? = some (.cells #[.map (some mb), .int .i64 (-1), .int .i64 gr] 106) := by
    rw [hW.block _ (Array.getElem?_eq_some_iff.1 hm1).1 (fun e => by have := Option.some.inj e; omega)]; exact hm1
  have g2 : W.heap[sz w.heap.size (shape (m :: cblk mb gr :: L0))]? = some (.cells #[.int .i64 b0, .int .i64 b1, .int .i64 b2, .int .i64 b3, .int .i64 b4, .slice xa M xc] 67) := by
    rw [hW.block _ (Array.getElem?_eq_some_iff.1 hm2).1 (fun e => by have := Option.some.inj e; omega)]; exact hm2
  have g3 : W.heap[mb]? = (wd w (top :: [qblk b0 b1 b2 b3 b4 xa M xc, m] ++ cblk mb gr :: L0) n).heap[mb]? := by
    refine hW.block _ ?_ (fun e => by have := Option.some.inj e; omega)
    exact Nat.lt_trans hmb (Array.getElem?_eq_some_iff.1 hm1).1
  have hbw : mb < W.heap.size := Nat.lt_of_lt_of_le (Nat.lt_trans hmb (Array.getElem?_eq_some_iff.1 hm1).1) hW.size
  have hres := clean1_any (sz w.heap.size (shape L0)) (sz w.heap.size (shape (m :: cblk mb gr :: L0))) (some mb) gr b0 b1 b2 b3 b4 xa M xc r (lastO es r.key) W h0 h1 r1 r2
    (by simp only [World.cell?, g1]; rfl) (by simp only [World.cell?, g1]; rfl) (by simp only [World.cell?, g1]; rfl) (Array.getElem?_eq_some_iff.1 g1).1
    (by simp only [World.cell?, g2]; rfl) (by simp only [World.cell?, g2]; rfl) (by simp only [World.cell?, g2]; rfl) (by simp only [World.cell?, g2]; rfl) (by simp only [World.cell?, g2]; rfl) (by simp only [World.cell?, g2]; rfl) (Array.getElem?_eq_some_iff.1 g2).1
    (fun W2 hm => hlk W2 (by rw [hm.below.block mb hbw]; exact g3) r.key r3)
  exact hres
end Go.Proofs.Ytlanghikmccmbaa
/- compact.Clean: the walk. -/
namespace Go.Proofs.Ytlanghikmccmbaa
open Go.ChangeShapes Go.WideShapes Go.ChangeAt Go.RowKit Go.Maps
set_option linter.unusedVariables false
set_option linter.unusedSimpArgs false
theorem clnL_snoc {es : List (Int × Rec)} {l : List Bat} {k : Nat} {b : Bat} (h : l[k]? = some b) : clnL es (l.take (k + 1)) = clnL es (l.take k) ++ if 0 < (clnB es b).recs.length ∨ b.producer ≠ 0 then [clnB es b] else [] := by
  unfold clnL
  rw [List.take_add_one, h, Option.toList_some, List.map_append, List.filter_append, List.map_cons, List.map_nil, List.filter_cons, List.filter_nil]
  congr 1
  by_cases h1 : 0 < (clnB es b).recs.length ∨ b.producer ≠ 0
  · rw [if_pos h1, if_pos]
    simp only [Bool.or_eq_true, decide_eq_true_eq]
    exact h1
  · rw [if_neg h1, if_neg]
    simp only [Bool.or_eq_true, decide_eq_true_eq]
    exact h1
theorem keepQ_cln (es : List (Int × Rec)) (b : Bat) : keepQ (fun r => !keepB es (b.base + r.delta, r)) b.recs = (clnB es b).recs := by
  unfold keepQ clnB
  simp
structure CleanRet (w w' : World) (x : Ending) (g : List Bat) : Prop where
  out : ∃ (a : Option Addr) (c : Nat) (l : List Btm), x = .returned (.slice a l.length c) ∧ l.map Btm.b = g ∧ BatsAt w' a l ∧ (∀ x ∈ l, x.b.recs.length ≤ maxLen) ∧ l.length ≤ 12 ∧ More w w'
theorem more_pieceQ (w : World) (m x : Array Obj) (L : List (Array Obj)) (n n' : Nat) : More (wd w (m :: L) n) (wd w ((m ++ x) :: L) n') := ⟨x, n', by rw [wd_plus, wd_merge]⟩
theorem flat_btm' (l : List Btm) (x : Btm) : (l ++ [x]).flatMap btmCells = l.flatMap btmCells ++ btmCells x := by simp
set_option maxRecDepth 100000 in
set_option maxHeartbeats 6400000 in
theorem clean_any (ad : Option Addr) (cap : Nat) (l : List Btm) (gr : Int) (w : World) (h : BatsAt w ad l) (hl : l.length ≤ 12) (hr : risesB 0 (l.map Btm.b) = true) :
    Calls Try.prog 30 #[.slice ad l.length cap, .int .i64 (-1), .int .i64 gr] w fun e w' => CleanRet w w' e (clnL (evs (l.map Btm.b)) (l.map Btm.b)) := by
  obtain ⟨i0, hi, hz0, hz1, hz2⟩ := info_parts info_bat0
  have HA := Lib.hid h
  have HC := Lib.hid (rises_mem hr)
  have HLA := Lib.hid (fun W hm => last_any ad cap l W (h.more (w' := W) hm) hl hr)
  obtain ⟨L, hL⟩ : ∃ L, l.map Btm.b = L := ⟨_, rfl⟩
  have HL := Lib.hid hL
  rw [hL] at HC HLA ⊢
  obtain ⟨es, hes⟩ : ∃ es, evs L = es := ⟨_, rfl⟩
  rw [hes] at HLA ⊢
  obtain ⟨N, hN⟩ : ∃ N, l.length = N := ⟨_, rfl⟩
  have HN := Lib.hid hN
  have HNL : Hid (L.length = N) := Lib.hid (by rw [← hL, List.length_map]; exact hN)
  rw [hN] at hl HLA ⊢
  clear h hr hL hN hes
  refine calls_wd ?_
  go_enter Try.func30, Try.ntmps30
  go_wp2_with (first | (go_at_call 31; ((with_reducible refine (HLA.out _ (more_wd _ _ _)).mono ?_); rintro e w1 hs; obtain ⟨mb, rfl, ⟨x1, n1, rfl⟩, hmb, hlk⟩ := hs.out; rw [wd_plus] at hmb hlk; have HMB := Lib.hid hmb; have HLK := Lib.hid hlk; clear hs hmb hlk)))
  go_loopw [8, 18] (fun s8 s18 wr => ∃ (k : Nat) (lc : List Btm) (m : Ext) (a : Option Addr) (c : Nat), k ≤ N ∧ lc.length ≤ k ∧ s8 = .slice a lc.length c ∧ s18 = .int .i64 k ∧ wr = wd w [m.e, cblk mb gr, x1] m.n ∧ Hid (lc.map Btm.b = clnL es (L.take k)) ∧
    Hid (rowIn w.heap.size (shape [cblk mb gr, x1]) m.e 67 6 (.slice a lc.length c) lc.length (lc.flatMap btmCells)) ∧ Hid (∀ x ∈ lc, TRow recCells 73 (wd w [m.e, cblk mb gr, x1] m.n) x.a x.b.recs ∧ x.b.recs.length ≤ maxLen)) (fun _ s18 _ => N - (intOf s18).toNat)
  case atStart => exact ⟨0, [], ⟨#[], _⟩, none, 0, Nat.zero_le _, Nat.le_refl _, rfl, rfl, (wd_empty _ _ _).symm, Lib.hid rfl, Lib.hid (rowIn_nil _ _ _ _ _), Lib.hid (fun x hx => by cases hx)⟩
  case round =>
    obtain ⟨k, lc, m, a, c, hkN, hlk, rfl, rfl, rfl, HI, HROW, HTR⟩ := hrel
    by_cases hk : k < N
    · obtain ⟨x, hx⟩ : ∃ x, l[k]? = some x := ⟨_, List.getElem?_eq_getElem (by rw [HN.out]; exact hk)⟩
      obtain ⟨bb, off, rfl, hb, c0, c1, c2, c3, c4, c5⟩ := bats_at HA.out k x hx
      have hR := HA.out.each x (List.mem_of_getElem? hx)
      have hxL : L[k]? = some x.b := by rw [← HL.out, List.getElem?_map, hx]; rfl
      have hck := HC.out x.b (List.mem_of_getElem? hxL)
      have hch := (batCheck_ok hck).2
      obtain ⟨q1, q2, q3, q4, -, -, -, -, -, -, q5⟩ := batNum_ok (batCheck_ok hck).1
      have HSN := Lib.hid (clnL_snoc (es := es) hxL)
      have HKQ := Lib.hid (keepQ_cln es x.b)
      have HRR : Hid (∀ r ∈ x.b.recs, -1 ≤ r.delta ∧ r.delta ≤ 1000 ∧ r.key.length ≤ maxLen) := Lib.hid (fun r hr => by
        have h1 := chk_each hch r hr
        have h2 := recCheck_row h1.1
        unfold maxLen
        exact ⟨by omega, by omega, by omega⟩)
      have HCL := Lib.hid (fun W hm => clone_recs x.a x.cap x.b.recs W (hR.more (w' := W) hm) (by omega))
      have hfl : (clnB es x.b).recs.length ≤ x.b.recs.length := List.length_filter_le ..
      obtain ⟨C, hC⟩ : ∃ C, clnB es x.b = C := ⟨_, rfl⟩
      have HCB : Hid (∀ a c, btmCells ⟨C, a, c⟩ = [.int .i64 x.b.base, .int .i64 x.b.count, .int .i64 x.b.producer, .int .i64 x.b.epoch, .int .i64 x.b.seq, .slice a C.recs.length c]) := Lib.hid (fun a c => by rw [← hC]; rfl)
      rw [hC] at HSN HKQ hfl
      have HDL := Lib.hid (fun (top : Array Obj) (n : Nat) (v : Value) hrow => delq_wd (w := w) 62 #[.pointer (some ⟨sz w.heap.size (shape [x1]), 0, none⟩), .pointer (some ⟨sz w.heap.size (shape [m.e, cblk mb gr, x1]), 0, none⟩)] (fun r => !keepB es (x.b.base + r.delta, r)) [qblk x.b.base x.b.count x.b.producer x.b.epoch x.b.seq x.a x.b.recs.length x.cap, m.e, cblk mb gr, x1] top n v x.b.recs hrow (by omega)
        (fun row hrw => pred_clean (L0 := [x1]) (n := n) (top := top) q3 q4 HRR.out (Nat.lt_of_lt_of_eq HMB.out (wd_size _ _ _)) (fun W hW => HLK.out W (hW.trans (by
          have hm : More (wd w [x1] n1) (wd w (top :: [qblk x.b.base x.b.count x.b.producer x.b.epoch x.b.seq x.a x.b.recs.length x.cap, m.e] ++ cblk mb gr :: [x1]) n) := more_cons (more_cons (more_cons (more_cons (more_same _ _ _ _))))
          exact hm.below.block mb HMB.out))) row hrw) (enters_of Try.func62 (by kernel_rfl) rfl))
      rw [HKQ.out] at HDL
      obtain ⟨⟨b0, b1, b2, b3, b4, recs⟩, xa, xc⟩ := x
      dsimp only at c0 c1 c2 c3 c4 c5 HSN HCL HDL HCB q1 q2 q3 q4 q5 hfl HRR
      obtain ⟨M, hM⟩ : ∃ M, recs.length = M := ⟨_, rfl⟩
      rw [hM] at q5 c5 HCL HDL hfl
      obtain ⟨K, hK⟩ : ∃ K, C.recs.length = K := ⟨_, rfl⟩
      have HK := Lib.hid hK
      rw [hK] at hfl HSN HCB
      clear hx hxL hck hch hR hM hK hC HRR HKQ
      by_cases hgo : 0 < K ∨ b2 ≠ 0
      · rw [if_pos hgo] at HSN
        by_cases h0K : 0 < K
        · have hgK : decide (0 < K) = true := decide_eq_true h0K
          go_wp2_with (first
            | ((go_at_call 61; ((with_reducible refine (HCL.out _ (more_wd _ _ _)).mono ?_); rintro e w1 ⟨v9, rfl, x1⟩; obtain ⟨m9, rfl, hr9⟩ := x1.wd; clear x1)); obtain ⟨a9, c9, rfl⟩ := rowIn_slice hr9; have HR9 := Lib.hid hr9; clear hr9)
            | (go_at_call 60; refine (HDL.out m9.e m9.n _ HR9.out).mono ?_; rintro e w5 hs; obtain ⟨a5, c5, m5, rfl, rfl, hr5⟩ := hs.out; rw [HK.out] at hr5; rw [HK.out]; have HR5 := Lib.hid hr5; clear hs hr5)
            | (at_builtin; refine wp_append_rowDT [m5.e, #[.cells #[.int .i64 b0, .int .i64 b1, .int .i64 b2, .int .i64 b3, .int .i64 b4, .slice a5 K c5] 67]] rfl _ _ _ rfl 67 i0 _ 6 64 Try.underlying60 hi hz0 hz1 hz2 rfl (by decide) (L := [cblk mb gr, x1]) (.slice a lc.length c) lc.length _ rfl HROW.out _ _ 1 1 rfl rfl (by simp [Value.oneCell']) (by unfold maxLen; omega) (by omega) ?_; intro v8 m8 hr8 hk8; obtain ⟨a8, c8, rfl⟩ := rowIn_slice hr8; have HR8 := Lib.hid hr8; have HK8 := Lib.hid hk8; clear hr8 hk8))
          go_roundw
          case rel =>
            have hT : TRow recCells 73 (wd w [m5.e, #[.cells #[.int .i64 b0, .int .i64 b1, .int .i64 b2, .int .i64 b3, .int .i64 b4, .slice a5 K c5] 67], m.e, cblk mb gr, x1] m5.n) a5 C.recs := (trow_of_row (L := [#[.cells #[.int .i64 b0, .int .i64 b1, .int .i64 b2, .int .i64 b3, .int .i64 b4, .slice a5 K c5] 67], m.e, cblk mb gr, x1]) recCells_len HK.out.symm HR5.out).1
            refine ⟨k + 1, lc ++ [⟨C, a5, c5⟩], m8, a8, c8, by omega, by simp; omega, by simp, by go_num, rfl, Lib.hid (by rw [HSN.out, List.map_append, HI.out]; rfl), Lib.hid (by rw [flat_btm', List.length_append, HCB.out]; exact HR8.out), Lib.hid (fun x hx => ?_)⟩
            rcases List.mem_append.1 hx with hx | hx
            · exact ⟨((HTR.out x hx).1.more (more_cons (more_cons (more_same _ _ _ _)))).keeps HK8.out (by decide), (HTR.out x hx).2⟩
            · obtain rfl : x = ⟨C, a5, c5⟩ := by simpa using hx
              exact ⟨hT.keeps HK8.out (by decide), by show C.recs.length ≤ maxLen; rw [HK.out]; unfold maxLen; omega⟩
          case measure => simp [intOf]; omega
        · obtain rfl : K = 0 := by omega
          have hb2 : b2 ≠ 0 := by omega
          have hgb : (b2 == 0) = false := by rw [beq_eq_false_iff_ne]; exact hb2
          have hgb2 : (b2 != 0) = true := by rw [bne_iff_ne]; exact hb2
          go_wp2_with (first
            | ((go_at_call 61; ((with_reducible refine (HCL.out _ (more_wd _ _ _)).mono ?_); rintro e w1 ⟨v9, rfl, x1⟩; obtain ⟨m9, rfl, hr9⟩ := x1.wd; clear x1)); obtain ⟨a9, c9, rfl⟩ := rowIn_slice hr9; have HR9 := Lib.hid hr9; clear hr9)
            | (go_at_call 60; refine (HDL.out m9.e m9.n _ HR9.out).mono ?_; rintro e w5 hs; obtain ⟨a5, c5, m5, rfl, rfl, hr5⟩ := hs.out; rw [HK.out] at hr5; rw [HK.out]; have HR5 := Lib.hid hr5; clear hs hr5)
            | (at_builtin; refine wp_append_rowDT [m5.e, #[.cells #[.int .i64 b0, .int .i64 b1, .int .i64 b2, .int .i64 b3, .int .i64 b4, .slice a5 0 c5] 67]] rfl _ _ _ rfl 67 i0 _ 6 64 Try.underlying60 hi hz0 hz1 hz2 rfl (by decide) (L := [cblk mb gr, x1]) (.slice a lc.length c) lc.length _ rfl HROW.out _ _ 1 1 rfl rfl (by simp [Value.oneCell']) (by unfold maxLen; omega) (by omega) ?_; intro v8 m8 hr8 hk8; obtain ⟨a8, c8, rfl⟩ := rowIn_slice hr8; have HR8 := Lib.hid hr8; have HK8 := Lib.hid hk8; clear hr8 hk8))
          go_roundw
          case rel =>
            have hT : TRow recCells 73 (wd w [m5.e, #[.cells #[.int .i64 b0, .int .i64 b1, .int .i64 b2, .int .i64 b3, .int .i64 b4, .slice a5 0 c5] 67], m.e, cblk mb gr, x1] m5.n) a5 C.recs := (trow_of_row (L := [#[.cells #[.int .i64 b0, .int .i64 b1, .int .i64 b2, .int .i64 b3, .int .i64 b4, .slice a5 0 c5] 67], m.e, cblk mb gr, x1]) recCells_len HK.out.symm HR5.out).1
            refine ⟨k + 1, lc ++ [⟨C, a5, c5⟩], m8, a8, c8, by omega, by simp; omega, by simp, by go_num, rfl, Lib.hid (by rw [HSN.out, List.map_append, HI.out]; rfl), Lib.hid (by rw [flat_btm', List.length_append, HCB.out]; exact HR8.out), Lib.hid (fun x hx => ?_)⟩
            rcases List.mem_append.1 hx with hx | hx
            · exact ⟨((HTR.out x hx).1.more (more_cons (more_cons (more_same _ _ _ _)))).keeps HK8.out (by decide), (HTR.out x hx).2⟩
            · obtain rfl : x = ⟨C, a5, c5⟩ := by simpa using hx
              exact ⟨hT.keeps HK8.out (by decide), by show C.recs.length ≤ maxLen; rw [HK.out]; unfold maxLen; omega⟩
          case measure => simp [intOf]; omega
      · rw [if_neg hgo, List.append_nil] at HSN
        obtain rfl : K = 0 := by omega
        obtain rfl : b2 = 0 := by omega
        have HI2 : Hid (lc.map Btm.b = clnL es (L.take (k + 1))) := Lib.hid (by rw [HSN.out]; exact HI.out)
        go_wp2_with (first
          | ((go_at_call 61; ((with_reducible refine (HCL.out _ (more_wd _ _ _)).mono ?_); rintro e w1 ⟨v9, rfl, x1⟩; obtain ⟨m9, rfl, hr9⟩ := x1.wd; clear x1)); obtain ⟨a9, c9, rfl⟩ := rowIn_slice hr9; have HR9 := Lib.hid hr9; clear hr9)
          | (go_at_call 60; refine (HDL.out m9.e m9.n _ HR9.out).mono ?_; rintro e w5 hs; obtain ⟨a5, c5, m5, rfl, rfl, hr5⟩ := hs.out; rw [HK.out] at hr5; rw [HK.out]; have HR5 := Lib.hid hr5; clear hs hr5))
        go_roundw
        case rel => exact ⟨k + 1, lc, ⟨_, _⟩, a, c, by omega, by omega, rfl, by go_num, by rw [wd_merge, wd_merge], HI2, Lib.hid (rowIn_more HROW.out _), Lib.hid (fun x hx => ⟨(HTR.out x hx).1.more (more_pieceQ _ _ _ _ _ _), (HTR.out x hx).2⟩)⟩
        case measure => simp [intOf]; omega
    · obtain rfl : k = N := by omega
      go_wp2
      go_ret
      have h1 := HI.out
      rw [List.take_of_length_le (by rw [HNL.out]; exact Nat.le_refl _)] at h1
      exact ⟨a, c, lc, rfl, h1, ⟨RowAt.of_rd (rdrow_of_row HROW.out), fun x hx => (HTR.out x hx).1.at recCells_len⟩, fun x hx => (HTR.out x hx).2, by omega, more_wd _ _ _⟩
end Go.Proofs.Ytlanghikmccmbaa
/- law 36, ViewLast: what the walk asks of the functions that the law calls. -/
namespace Go.Proofs.Ytlanghikmccmbaa
open Go.ChangeShapes Go.WideShapes Go.ChangeAt Go.RowKit Go.Maps
set_option linter.unusedVariables false
set_option linter.unusedSimpArgs false
/-- Batches handed back, of which the view is told. -/
structure ClnB (w w' : World) (e : Ending) (u : Vw) : Prop where
  out : ∃ a n c, e = .returned (.slice a n c) ∧ More w w' ∧ ∀ W, More w' W → Calls Try.prog 28 #[.slice a n c] W fun e w'' => VwB W w'' e u
/-- What Get says of a record that is its key's last one. -/
def lastR (r : Rec) (o : Int) : VRow := if r.dead = true then VRow.zero else rowOf r o
structure LastOk (w : World) (ad : Option Addr) (cap : Nat) (l : List Btm) (gr : Int) (V : List VRow) (nx nu : Int) (es : List (Int × Rec)) : Prop where
  build : ∀ W, More w W → Calls Try.prog 28 #[.slice ad l.length cap] W fun e w' => VwB W w' e ⟨nx, V⟩
  clean : ∀ W, More w W → Calls Try.prog 30 #[.slice ad l.length cap, .int .i64 (-1), .int .i64 gr] W fun e w' => ClnB W w' e ⟨nu, V⟩
  last : ∀ W, More w W → Calls Try.prog 31 #[.slice ad l.length cap] W fun e w' => LastRet W w' e es
  row : ∀ x ∈ V, lastO es x.key = x.offset ∧ x.key.length ≤ maxLen
  recs : ∀ x ∈ l, ∀ r ∈ x.b.recs, 0 ≤ x.b.base ∧ x.b.base ≤ 4611686018427387903 ∧ -1 < r.delta ∧ r.delta < 32 ∧ r.key.length ≤ maxLen
  len : ∀ x ∈ l, x.b.recs.length ≤ 32
  get : ∀ x ∈ l, ∀ r ∈ x.b.recs, r.keyed = true → x.b.base + r.delta = lastO es r.key → ∀ W a c, VRowsAt W a V → Calls Try.prog 11 #[.agg #[.int .i64 nx, .slice a V.length c], .string (str r.key)] W fun e w' => e = .returned (.tuple #[rowA (lastR r (x.b.base + r.delta)), .bool (!r.dead)]) ∧ More W w'
  cnt : (es.filter (tellB es)).length = V.length
  small : V.length ≤ 384
theorem last_ok (ad : Option Addr) (cap : Nat) (l : List Btm) (gr : Int) (w : World) (hB : BatsAt w ad l) (hf : ∀ x ∈ l, x.b.recs.length ≤ maxLen) (hl : l.length ≤ 12) (hr : risesB 0 (l.map Btm.b) = true) :
    ∃ V nx nu, LastOk w ad cap l gr V nx nu (evs (l.map Btm.b)) := by
  obtain ⟨g1, g2, g3⟩ := up_good hr hl l.length
  rw [List.take_length] at g1
  have hlm : l.length ≤ maxLen := by unfold maxLen; omega
  have hV : (upV l l.length).rows = evRows [] (evs (l.map Btm.b)) := by
    unfold upV
    rw [List.take_length]
    exact goVs_evs _ _
  have hu := (evs_up hr).1
  have hck := rises_mem hr
  have hasc : ascB (upV l l.length).rows = true := (viewCheck_ok g2).2.2.2.2
  have hrec : ∀ x ∈ l, ∀ r ∈ x.b.recs, 0 ≤ x.b.base ∧ x.b.base ≤ 4611686018427387903 ∧ -1 < r.delta ∧ r.delta < 32 ∧ r.key.length ≤ maxLen := fun x hx r hrr => by
    have h1 := hck x.b (List.mem_map_of_mem hx)
    obtain ⟨q1, q2, q3, q4, _⟩ := batNum_ok (batCheck_ok h1).1
    have h2 := chk_each (batCheck_ok h1).2 r hrr
    have h3 := recCheck_row h2.1
    unfold maxLen
    exact ⟨by omega, by omega, by omega, by omega, by omega⟩
  have hmem : ∀ x ∈ l, ∀ r ∈ x.b.recs, (x.b.base + r.delta, r) ∈ evs (l.map Btm.b) := fun x hx r hrr => by
    unfold evs
    exact List.mem_flatMap.2 ⟨x.b, List.mem_map_of_mem hx, List.mem_map.2 ⟨r, hrr, rfl⟩⟩
  refine ⟨(upV l l.length).rows, (upV l l.length).next, (goVs Vw.zero (clnL (evs (l.map Btm.b)) (l.map Btm.b))).next, ?_⟩
  constructor
  · intro W hW
    exact (pbuild_any ad cap l W (hB.more hW) hf hlm).mono fun e w' h => vwb_of h g1
  · intro W hW
    refine (clean_any ad cap l gr W (hB.more hW) hl hr).mono ?_
    rintro e w' hs
    obtain ⟨a, c, lc, rfl, h1, h2, h3, h4, h5⟩ := hs.out
    refine ⟨a, lc.length, c, rfl, h5, fun W2 hW2 => ?_⟩
    have hrc : risesB 0 (lc.map Btm.b) = true := by rw [h1]; exact cln_rises _ hr
    obtain ⟨k1, k2, k3⟩ := up_good hrc h4 lc.length
    rw [List.take_length] at k1
    have hu2 : upV lc lc.length = ⟨(goVs Vw.zero (clnL (evs (l.map Btm.b)) (l.map Btm.b))).next, (upV l l.length).rows⟩ := by
      have e1 : upV lc lc.length = goVs Vw.zero (clnL (evs (l.map Btm.b)) (l.map Btm.b)) := by unfold upV; rw [List.take_length, h1]
      have e2 : (goVs Vw.zero (clnL (evs (l.map Btm.b)) (l.map Btm.b))).rows = (upV l l.length).rows := by
        rw [hV, goVs_evs, evs_cln]
        exact evRows_keep hu
      rw [e1, ← e2]
    exact (pbuild_any a c lc W2 (h2.more hW2) h3 (by unfold maxLen; omega)).mono fun e w' h => vwb_of h (by rw [k1, hu2])
  · intro W hW
    exact last_any ad cap l W (hB.more hW) hl hr
  · intro x hx
    have h1 := (up_small hr hl l.length x hx).1
    rw [hV] at hx
    exact ⟨row_last hx, h1⟩
  · exact hrec
  · intro x hx
    exact (batNum_ok (batCheck_ok (hck x.b (List.mem_map_of_mem hx))).1).2.2.2.2.2.2.2.2.2.2
  · intro x hx r hrr hk hlo W a c hW
    have h1 := pget_good (upV l l.length) hasc r.key a c W hW (by omega)
    have h2 := tell_row hu (hmem x hx r hrr) hk hlo
    rw [← hV] at h2
    rw [h2] at h1
    unfold lastR
    cases hd : r.dead with
    | true => rw [hd] at h1; simpa using h1
    | false => rw [hd] at h1; simpa using h1
  · rw [hV]; exact tell_len hu
  · exact g3
end Go.Proofs.Ytlanghikmccmbaa
