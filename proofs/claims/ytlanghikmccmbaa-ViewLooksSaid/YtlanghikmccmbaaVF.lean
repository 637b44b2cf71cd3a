/- bilanderref36: Put. -/
import Derived.Test.YtlanghikmccmbaaVE
import Derived.Test.YtlanghikmccmbaaMB
namespace Go.Proofs.Ytlanghikmccmbaa
open Go.ChangeShapes Go.WideShapes Go.ChangeAt Go.RowKit
set_option linter.unusedVariables false
set_option linter.unusedSimpArgs false

theorem k_own_push {w : World} {L : List (Array Obj)} {n k : Nat} {o : Obj} {d : Array Obj} (h : (wd w L n).heap[k]? = some o) : (wd w (d :: L) n).heap[k]? = some o := by
  have e1 : wd w (d :: L) n = plus (wd w L n) d n := rfl
  rw [e1, plus_block _ _ _ _ (Array.getElem?_eq_some_iff.1 h).1]
  exact h
theorem k_own_top (w : World) (L : List (Array Obj)) (n : Nat) (o : Obj) : (wd w (#[o] :: L) n).heap[sz w.heap.size (shape L)]? = some o := wd_at w L n _ _ _ rfl rfl
theorem k_hp_get_top (h : Array Obj) (L : List (Array Obj)) (s : Array Obj) (k : Nat) (hk : (hp h L).size ≤ k) : (hp h (s :: L))[k]? = s[k - (hp h L).size]? := by
  show (hp h L ++ s)[k]? = _
  rw [Array.getElem?_append, if_neg (by omega)]
theorem k_hp_get_low (h : Array Obj) (L : List (Array Obj)) (s : Array Obj) (k : Nat) (hk : k < (hp h L).size) : (hp h (s :: L))[k]? = (hp h L)[k]? := by
  show (hp h L ++ s)[k]? = _
  rw [Array.getElem?_append, if_pos hk]
/-- What an append leaves, seen around an iterator. -/
theorem k_grown_iter {w W' : World} {L : List (Array Obj)} {n : Nat} {e Y : Array Obj} {I : Obj} {row : Option Nat} (hg : (wd w (e :: #[I] :: Y :: L) n).grownBy W' row)
    (hr : ∀ k, row = some k → sz w.heap.size (shape L) ≤ k ∧ k ≠ sz w.heap.size (shape (Y :: L))) :
    ∃ e' Y' n', Y'.size = Y.size ∧ W' = wd w (e' :: #[I] :: Y' :: L) n' := by
  have hsz : (wd w (e :: #[I] :: Y :: L) n).heap.size = (hp w.heap L).size + Y.size + 1 + e.size := by
    show (((hp w.heap L ++ Y) ++ #[I]) ++ e).size = _
    simp only [Array.size_append]; rfl
  have hN := hg.size
  rw [hsz] at hN
  have hLs : (hp w.heap L).size = sz w.heap.size (shape L) := hp_size _ _
  have hYs : sz w.heap.size (shape (Y :: L)) = (hp w.heap L).size + Y.size := by rw [hLs]; rfl
  refine ⟨W'.heap.extract ((hp w.heap L).size + Y.size + 1) W'.heap.size, W'.heap.extract (hp w.heap L).size ((hp w.heap L).size + Y.size), W'.drawn, ?_, ?_⟩
  · simp only [Array.size_extract]; omega
  · refine world_ext ?_ hg.tape rfl hg.os hg.output
    have hYz : (W'.heap.extract (hp w.heap L).size ((hp w.heap L).size + Y.size)).size = Y.size := by simp only [Array.size_extract]; omega
    apply Array.ext_getElem?
    intro k
    show W'.heap[k]? = (((hp w.heap L ++ _) ++ #[I]) ++ _)[k]?
    have keep : ∀ k, k < (hp w.heap L).size + Y.size + 1 + e.size → (∀ g, row = some g → k ≠ g) → W'.heap[k]? = (wd w (e :: #[I] :: Y :: L) n).heap[k]? := fun k hk hne => hg.block k (by rw [hsz]; exact hk) (fun h => hne k h.symm rfl)
    by_cases h1 : k < (hp w.heap L).size
    · rw [keep k (by omega) (fun g hgr => by have := (hr g hgr).1; omega)]
      have e1 : (wd w (e :: #[I] :: Y :: L) n).heap[k]? = (hp w.heap L)[k]? := by
        show (((hp w.heap L ++ Y) ++ #[I]) ++ e)[k]? = _
        rw [Array.getElem?_append, if_pos (by simp only [Array.size_append]; omega), Array.getElem?_append, if_pos (by simp only [Array.size_append]; omega), Array.getElem?_append, if_pos h1]
      rw [e1, Array.getElem?_append, if_pos (by simp only [Array.size_append, hYz]; omega), Array.getElem?_append, if_pos (by simp only [Array.size_append, hYz]; omega), Array.getElem?_append, if_pos h1]
    · by_cases h2 : k < (hp w.heap L).size + Y.size
      · rw [Array.getElem?_append, if_pos (by simp only [Array.size_append, hYz]; omega), Array.getElem?_append, if_pos (by simp only [Array.size_append, hYz]; omega), Array.getElem?_append, if_neg h1, Array.getElem?_extract]
        rw [if_pos (by omega), show (hp w.heap L).size + (k - (hp w.heap L).size) = k by omega]
      · by_cases h3 : k = (hp w.heap L).size + Y.size
        · rw [keep k (by omega) (fun g hgr => by have := (hr g hgr).2; omega)]
          have e1 : (wd w (e :: #[I] :: Y :: L) n).heap[k]? = some I := by
            show (((hp w.heap L ++ Y) ++ #[I]) ++ e)[k]? = _
            rw [Array.getElem?_append, if_pos (by simp only [Array.size_append]; simp; omega), Array.getElem?_append, if_neg (by simp only [Array.size_append]; omega)]
            simp [Array.size_append, h3]
          rw [e1, Array.getElem?_append, if_pos (by simp only [Array.size_append, hYz]; simp; omega), Array.getElem?_append, if_neg (by simp only [Array.size_append, hYz]; omega)]
          rw [show k - (hp w.heap L ++ W'.heap.extract (hp w.heap L).size ((hp w.heap L).size + Y.size)).size = 0 by rw [Array.size_append, hYz]; omega]
          rfl
        · rw [Array.getElem?_append, if_neg (by simp only [Array.size_append, hYz]; simp; omega), Array.getElem?_extract]
          have hs : ((hp w.heap L ++ W'.heap.extract (hp w.heap L).size ((hp w.heap L).size + Y.size)) ++ #[I]).size = (hp w.heap L).size + Y.size + 1 := by simp only [Array.size_append, hYz]; rfl
          rw [hs]
          by_cases h4 : k < W'.heap.size
          · rw [if_pos (by omega), show (hp w.heap L).size + Y.size + 1 + (k - ((hp w.heap L).size + Y.size + 1)) = k by omega]
          · rw [if_neg (by omega), Array.getElem?_eq_none (by omega)]
/-- The bytes l are the call's own, from the piece above L on. -/
abbrev KOwn (W w : World) (L : List (Array Obj)) (v : Value) (l : List UInt8) : Prop := W.ownsRow (sz w.heap.size (shape L)) 5 1 v l.length (Lib.byteCells l)
theorem k_bown_of {w : World} {L : List (Array Obj)} {m : Array Obj} {n : Nat} {v : Value} {l : List UInt8} (h : BRow w L m v l) : KOwn (wd w (m :: L) n) w L v l := owns_of_row h
theorem k_bown_push {W w : World} {L : List (Array Obj)} {v : Value} {l : List UInt8} (h : KOwn W w L v l) (e : Array Obj) (n : Nat) : KOwn (plus W e n) w L v l := by
  obtain ⟨h1, h2⟩ := h
  refine ⟨h1, ?_⟩
  rcases h2 with h2 | ⟨g, cap, cur, hv, hg, he, r⟩
  · exact .inl h2
  · exact .inr ⟨g, cap, cur, hv, hg, by rw [plus_block _ _ _ _ (Array.getElem?_eq_some_iff.1 he).1]; exact he, r⟩
theorem k_bown_made {w : World} {L : List (Array Obj)} {M : List (Array Obj)} {n : Nat} {v : Value} {l : List UInt8} (h : KOwn (wd w M n) w L v l) : BMade w (wd w M n) v l := by
  obtain ⟨x, k, hx⟩ := more_wd w M n
  have hx' : wd w M n = wd w [x] k := hx
  rw [hx'] at h ⊢
  refine made_of (row_of_owns (L := []) (k := k) ?_)
  obtain ⟨h1, h2⟩ := h
  refine ⟨h1, ?_⟩
  rcases h2 with h2 | ⟨g, cap, cur, hv, hg, r⟩
  · exact .inl h2
  · exact .inr ⟨g, cap, cur, hv, by have := sz_ge w.heap.size (shape L); show w.heap.size ≤ g; omega, r⟩
/-- 'append(v, u...)', a block between that stays. -/
theorem at_append_keep {ops : Array Oper} {rest : List Oper} {o : Oper} {a : Act} {Q : Exit → Act → World → Prop} {w : World} {L : List (Array Obj)} {n : Nat} {e Y : Array Obj} {I : Obj} {v u : Value} {l l2 : List UInt8}
    (hI : ∀ cur, I ≠ .cells cur 5 (0, 0)) (hgd : o.guard = none) (s x : Operand) (ho : o.op = .call { callee := .builtin .append, args := #[s, x], argTypes := #[48, 48] })
    (hs : a.eval s = v) (hown : KOwn (wd w (e :: #[I] :: Y :: L) n) w L v l) (hx : a.eval x = u) (hsrc : RB (wd w (e :: #[I] :: Y :: L) n) u l2) (hlen : l.length + l2.length ≤ 1099511627776)
    (h : ∀ (v' : Value) (e' Y' : Array Obj) (n' : Nat), Y'.size = Y.size → KOwn (wd w (e' :: #[I] :: Y' :: L) n') w L v' (l ++ l2) → wpList Try.prog ops Q rest (a.put o.dst v') (wd w (e' :: #[I] :: Y' :: L) n')) :
    wpList Try.prog ops Q (o :: rest) a (wd w (e :: #[I] :: Y :: L) n) := by
  obtain ⟨i0, hi, hz0, hz1, hz2⟩ := info_parts info_u8
  have hr : ∀ k, v.ownBlock = some k → sz w.heap.size (shape L) ≤ k ∧ k ≠ sz w.heap.size (shape (Y :: L)) := fun k hk => by
    rcases hown.2 with ⟨rfl, _⟩ | ⟨g, cap, cur, rfl, hg, he, _⟩
    · simp [Value.ownBlock] at hk
    · simp only [Value.ownBlock, Option.some.injEq] at hk
      subst hk
      refine ⟨hg, fun hk => ?_⟩
      subst hk
      rw [k_own_push (k_own_top w (Y :: L) n _)] at he
      exact hI _ (Option.some.inj he)
  have hbase : sz w.heap.size (shape L) ≤ (wd w (e :: #[I] :: Y :: L) n).heap.size := by rw [wd_size, shape_cons, shape_cons, shape_cons]; simp only [sz]; omega
  have hl2 : l2.length * 1 = l2.length := Nat.mul_one _
  have fin : ∀ (ad : Addr) (c : Nat), u = .slice (some ad) l2.length c → (∀ j' u', (Lib.byteCells l2)[j']? = some u' → (wd w (e :: #[I] :: Y :: L) n).cell? (ad.add j') = some u') → wpList Try.prog ops Q (o :: rest) a (wd w (e :: #[I] :: Y :: L) n) := fun ad c hu hc => by
    refine wpList_append_own _ hgd s x 48 ho (sz w.heap.size (shape L)) 5 i0 _ 1 1 Try.underlying48 hi hz0 hz1 hz2 rfl (by decide) v _ _ hs hown ad l2.length c (Lib.byteCells l2) (by rw [hx, hu]) (by rw [bc_len, hl2]) hc (bc_one l2) (by unfold maxLen; omega) (by omega) hbase ?_
    intro v' w' hown' hg _
    obtain ⟨e', Y', n', hY, rfl⟩ := k_grown_iter hg hr
    refine h v' e' Y' n' hY ?_
    have e1 : l.length + l2.length = (l ++ l2).length := List.length_append.symm
    rw [← bc_append, e1] at hown'
    exact hown'
  obtain ⟨a0, c, rfl, hc1, hc2, hc3⟩ := hsrc
  by_cases hne : l2 = []
  · subst hne
    cases a0 with
    | some ad => exact fin ad c rfl (fun j' u' hu => by simp [Lib.byteCells] at hu)
    | none =>
      refine wpList_plain hgd fun K hK' => ?_
      have hrun := run_append_own_none (P := Try.prog) (wd w (e :: #[I] :: Y :: L) n) (sz w.heap.size (shape L)) 48 o.type 5 i0 1 Try.underlying48 hi v _ _ hown c
      have h2 := h v e Y n rfl (by simpa using hown)
      unfold Oper.wp
      simp [execOp, ho, resolve, invoke, builtin, hs, hx, hrun, Result.andThen]
      exact hK' _ _ h2
  · obtain ⟨b, off, rfl, hb, hc⟩ := hc3 hne
    refine fin ⟨b, off, none⟩ c rfl fun j' u' hu => ?_
    have hj : j' < l2.length := by rw [← bc_len l2]; exact (List.getElem?_eq_some_iff.1 hu).1
    rw [addr_add, hc j' hj, hu]
theorem at_append_keep1 {ops : Array Oper} {rest : List Oper} {o : Oper} {a : Act} {Q : Exit → Act → World → Prop} {w : World} {L : List (Array Obj)} {n n0 : Nat} {m1 e Y : Array Obj} {I : Obj} {v u : Value} {l l2 : List UInt8}
    (hI : ∀ cur, I ≠ .cells cur 5 (0, 0)) (hgd : o.guard = none) (s x : Operand) (ho : o.op = .call { callee := .builtin .append, args := #[s, x], argTypes := #[48, 48] })
    (hs : a.eval s = v) (hown : KOwn (wd w (e :: #[I] :: Y :: L) n0) w L v l) (hx : a.eval x = u) (hsrc : BRow w (e :: #[I] :: Y :: L) m1 u l2) (hlen : l.length + l2.length ≤ 1099511627776)
    (h : ∀ (v' : Value) (e' Y' : Array Obj) (n' : Nat), Y'.size = Y.size → KOwn (wd w (e' :: #[I] :: Y' :: L) n') w L v' (l ++ l2) → wpList Try.prog ops Q rest (a.put o.dst v') (wd w (e' :: #[I] :: Y' :: L) n')) :
    wpList Try.prog ops Q (o :: rest) a (wd w (m1 :: e :: #[I] :: Y :: L) n) := by
  have h1 := k_bown_push hown m1 n
  have h2 := RB.of_row (L := e :: #[I] :: Y :: L) (k := n) hsrc _ rfl
  have e1 : plus (wd w (e :: #[I] :: Y :: L) n0) m1 n = wd w (m1 :: e :: #[I] :: Y :: L) n := rfl
  rw [e1, wd_merge] at h1
  rw [wd_merge] at h2 ⊢
  exact at_append_keep hI hgd s x ho hs h1 hx h2 hlen h
theorem keep_of {w : World} {L : List (Array Obj)} {m : Array Obj} {I : Obj} {n : Nat} {v : Value} {l : List UInt8} (h : BRow w L m v l) : KOwn (wd w (#[] :: #[I] :: m :: L) n) w L v l :=
  k_bown_push (w := w) (W := wd w (#[I] :: m :: L) n) (k_bown_push (W := wd w (m :: L) n) (k_bown_of h) #[I] n) #[] n
theorem keep_row {w : World} {L : List (Array Obj)} {e Y : Array Obj} {I : Obj} {n : Nat} {v : Value} {l : List UInt8} (h : KOwn (wd w (e :: #[I] :: Y :: L) n) w L v l) : BRow w L (Y ++ (#[I] ++ e)) v l := by
  unfold KOwn at h
  rw [wd_merge, wd_merge] at h
  exact row_of_owns h
/-- A piece that kept its size. -/
theorem kept_size {k : Nat} (s : { Y : Array Obj // Y.size = k }) : s.1.size = k := s.2
attribute [go_sem] kept_size
set_option maxRecDepth 100000 in
set_option maxHeartbeats 3200000 in
theorem rvput_any (v : Vw) (a : Option Addr) (cap : Nat) (w : World) (hr : VRowsAt w a v.rows) (hf : ∀ x ∈ v.rows, x.key.length ≤ maxLen ∧ x.value.length ≤ maxLen) (hl : v.rows.length ≤ maxLen) :
    Calls Try.prog 22 #[.agg #[.int .i64 v.next, .slice a v.rows.length cap]] w fun x w' => BRet w w' x (viewPut v).1 (viewPut v).2 := by
  have hck := Lib.hid (fun W h => rvcheck_any v a cap W h hf hl)
  clear hf
  by_cases hn : viewCheck v = 0
  · have HP : Hid (viewPut v = (viewLay v, 0)) := Lib.hid (by unfold viewPut; rw [if_neg (by rw [hn]; simp)])
    obtain ⟨⟨hx1, hx2⟩, h4096, hfit⟩ := view_fit hn
    rw [hn] at hck
    clear hn hl
    generalize viewPut v = R at HP ⊢
    have HL : Hid (viewLay v = put v.next ++ put v.rows.length ++ rowsB v.rows) := Lib.hid rfl
    generalize viewLay v = LL at HP HL
    obtain ⟨next, rows⟩ := v
    dsimp only at *
    have HR := Lib.hid hr
    have HF := Lib.hid hfit
    have HBL := Lib.hid (fun k => rowsB_len rows k hfit)
    have hl1 := put_len hx1 hx2
    have hl2 := put_len (n := (rows.length : Int)) (by omega) (by omega)
    have HPL := Lib.hid (fun W => rput_any (rows.length : Int) (by omega) (by omega) W)
    have HPN := Lib.hid (fun W => rput_any next hx1 hx2 W)
    clear hr hfit
    refine calls_wd ?_
    go_enter Try.func22, Try.ntmps22
    go_wp2_with (first | (go_at_call 8; ((with_reducible refine (hck.out _ (HR.out.more (more_wd _ _ _))).mono ?_); rintro e w1 ⟨rfl, x1, n1, rfl⟩)))
    refine wp_region_mix [0, 1, 3, 4, 5] [2, 6, 7, 8] [true, true, false, true, true, true] [false, false, true, false, false, false, true, true, true] ⟨rfl, rfl⟩ (by kernel_rfl) (by kernel_rfl) (fun _ _ d _ _ h => by cases d <;> exact h) ?_
    apply Exists.intro
    refine ⟨?_, ?_⟩
    · intro E
      simp only [sel_t, sel_f, sel_n]
      repeat (go_big_quiet_step ((fail)))
      exact wpQuiet_nil rfl
    simp only [sel_t, sel_f, sel_n, loudly_cons, loudly_nil]
    go_wp2_with (first | (go_at_call 46; ((with_reducible refine (HPN.out _).mono ?_); rintro e w1 ⟨u1, rfl, x1⟩; obtain ⟨p1, rfl, hs1⟩ := x1.wd; clear x1)))
    refine ⟨over_cons _ (over_refl _ _ _), ?_⟩
    rw [loudly_cons]
    go_wp2_with (first | (go_at_call 46; ((with_reducible refine (HPL.out _).mono ?_); rintro e w1 ⟨u2, rfl, x1⟩; obtain ⟨p2, rfl, hs2⟩ := x1.wd; clear x1)))
    refine ⟨over_cons _ (over_cons _ (over_refl _ _ _)), ?_⟩
    rw [loudly_cons]
    go_wp2_with (first | (at_builtin; refine at_append rfl _ _ rfl rfl hs1 rfl hs2 (by omega) ?_; clear hs1 hs2; intro v3 m3 hr3))
    refine ⟨over_cons _ (over_refl _ _ _), ?_⟩
    rw [loudly_cons]
    go_wp2
    refine ⟨over_cons _ (over_refl _ _ _), ?_⟩
    rw [loudly_nil]
    obtain ⟨N, hN⟩ : ∃ N, put next ++ put (rows.length : Int) = N := ⟨_, rfl⟩
    have hNl : N.length ≤ 20 := by rw [← hN, List.length_append]; omega
    rw [hN] at hr3 HL
    clear hN hl1 hl2 HPL HPN
    go_wp2
    go_loopw [5, 6] (fun u i wr => ∃ (k : Nat) (m : Ext), k ≤ rows.length ∧ i = .int .i64 k ∧ BRow w [vbox next a rows.length cap 24] m.e u (N ++ rowsB (rows.take k)) ∧ wr = wd w [m.e, vbox next a rows.length cap 24] m.n) (fun _ i _ => rows.length - (intOf i).toNat)
    case atStart => exact ⟨0, ⟨x1 ++ m3.e, m3.n⟩, Nat.zero_le _, rfl, by rw [List.take_zero]; show BRow _ _ _ _ (N ++ []); rw [List.append_nil]; exact brow_under hr3, by rw [wd_merge]⟩
    case round =>
      obtain ⟨k, m, hk, rfl, hrow, rfl⟩ := hrel
      by_cases hlt : k < rows.length
      · obtain ⟨x, hx⟩ : ∃ x, rows[k]? = some x := ⟨_, List.getElem?_eq_getElem hlt⟩
        obtain ⟨bb, off, rfl, hb, c0, c1, c2, c3⟩ := vrows_at HR.out k x hx
        have hfx := HF.out x (List.mem_of_getElem? hx)
        have HS := Lib.hid (rowsB_snoc (rows.take k) x)
        rw [← take_get rows k _ hx] at HS
        have hb1 := HBL.out k
        have hb2 := HBL.out (k + 1)
        obtain ⟨Y, hY⟩ : ∃ Y, rowsB (rows.take k) = Y := ⟨_, rfl⟩
        obtain ⟨Z, hZ⟩ : ∃ Z, rowsB (rows.take (k + 1)) = Z := ⟨_, rfl⟩
        rw [hY, hZ] at HS
        rw [hY] at hb1 hrow
        rw [hZ] at hb2
        obtain ⟨NY, hNY⟩ : ∃ NY, N ++ Y = NY := ⟨_, rfl⟩
        have hNYl : NY.length ≤ 20 + Y.length := by rw [← hNY, List.length_append]; omega
        have HN : Hid (N ++ Z = NY ++ (text (str x.key) ++ text (str x.value) ++ put x.offset ++ put x.time)) := Lib.hid (by rw [HS.out, ← hNY, List.append_assoc]; rfl)
        rw [hNY] at hrow
        clear hNY
        clear hx hY HS
        obtain ⟨kk, vv, oo, tt⟩ := x
        dsimp only at *
        obtain ⟨f1, f2, f3, f4, f5, f6⟩ := hfx
        dsimp only at f1 f2 f3 f4 f5 f6
        have hs1 := str_size kk
        have hs2 := str_size vv
        have e1 := text_str_len f1 (by omega)
        have e2 := text_str_len f2 (by omega)
        have e3 := put_len f3 f4
        have e4 := put_len f5 f6
        have HT1 := Lib.hid (fun W => rtext_any (str kk) (by omega) W)
        have HT2 := Lib.hid (fun W => rtext_any (str vv) (by omega) W)
        have HP3 := Lib.hid (fun W => rput_any oo f3 f4 W)
        have HP4 := Lib.hid (fun W => rput_any tt f5 f6 W)
        generalize text (str kk) = T1 at *
        generalize text (str vv) = T2 at *
        generalize put oo = T3 at *
        generalize put tt = T4 at *
        clear f1 f2 f3 f4 f5 f6 hs1 hs2
        have hI : ∀ cur, Obj.cells #[.string (str kk), .string (str vv), .int .i64 oo, .int .i64 tt] 26 (0, 0) ≠ .cells cur 5 (0, 0) := by intro cur h; cases h
        have hk1 := keep_of (I := Obj.cells #[.string (str kk), .string (str vv), .int .i64 oo, .int .i64 tt] 26) (n := m.n) hrow
        clear hrow
        go_wp2
        rw [← wd_empty w [rbox kk vv oo tt 26, m.e, vbox next (some ⟨bb, off, none⟩) rows.length cap 24]]
        refine wp_region_mixf (fun (s : Ext × { Y : Array Obj // Y.size = m.e.size }) => wd w [s.1.e, rbox kk vv oo tt 26, s.2.1, vbox next (some ⟨bb, off, none⟩) rows.length cap 24] s.1.n) ((⟨#[], m.n + 1⟩, ⟨m.e, rfl⟩)) [0, 1, 2, 5, 6] [3, 4, 7, 8, 9] [true, true, true, false, false, true, true] [false, false, false, true, true, false, false, true, true, true] rfl ⟨rfl, rfl⟩ (by kernel_rfl) (by kernel_rfl) (fun _ _ d _ _ h => by cases d <;> exact h) ?_
        apply Exists.intro
        refine ⟨?_, ?_⟩
        · intro E
          simp only [sel_t, sel_f, sel_n]
          repeat (go_big_quiet_step ((fail)))
          exact wpQuiet_nil rfl
        simp only [sel_t, sel_f, sel_n, loudly_cons, loudly_nil]
        go_wp2_with (first | (go_at_call 47; ((with_reducible refine (HT1.out _).mono ?_); rintro e w1 ⟨g1, rfl, x1⟩; obtain ⟨p1, rfl, q1⟩ := x1.wd; clear x1)))
        refine ⟨⟨(⟨_, _⟩, ⟨_, rfl⟩), by rw [wd_merge]⟩, ?_⟩
        rw [loudly_cons]
        go_wp2_with (first | (at_builtin; refine at_append_keep1 hI rfl _ _ rfl rfl hk1 rfl q1 (by omega) ?_; clear hk1 q1; intro v6 e6 y6 n6 hy6 hk6))
        refine ⟨(by first | exact ⟨⟨_, _⟩, y6, hy6, rfl⟩ | exact ⟨(⟨_, _⟩, ⟨y6, hy6⟩), rfl⟩), ?_⟩
        rw [loudly_cons]
        go_wp2_with (first | (go_at_call 47; ((with_reducible refine (HT2.out _).mono ?_); rintro e w1 ⟨g2, rfl, x1⟩; obtain ⟨p2, rfl, q2⟩ := x1.wd; clear x1)))
        refine ⟨(by first | exact ⟨⟨_, _⟩, y6, hy6, by rw [wd_merge]⟩ | exact ⟨(⟨_, _⟩, ⟨y6, hy6⟩), by rw [wd_merge]⟩), ?_⟩
        rw [loudly_cons]
        go_wp2_with (first | (at_builtin; refine at_append_keep1 hI rfl _ _ rfl rfl hk6 rfl q2 (by simp only [List.length_append]; omega) ?_; clear hk6 q2; intro v7 e7 y7 n7 hy7 hk7))
        have hy7' := hy7.trans hy6
        refine ⟨(by first | exact ⟨⟨_, _⟩, y7, hy7', rfl⟩ | exact ⟨(⟨_, _⟩, ⟨y7, hy7'⟩), rfl⟩), ?_⟩
        rw [loudly_cons]
        go_wp2
        refine ⟨(by first | exact ⟨⟨_, _⟩, y7, hy7', rfl⟩ | exact ⟨(⟨_, _⟩, ⟨y7, hy7'⟩), rfl⟩), ?_⟩
        rw [loudly_nil]
        go_wp2
        refine wp_region_mixf (fun (s : Ext × { Y : Array Obj // Y.size = m.e.size }) => wd w [s.1.e, rbox kk vv oo tt 26, s.2.1, vbox next (some ⟨bb, off, none⟩) rows.length cap 24] s.1.n) ((⟨e7, n7 + 1⟩, ⟨y7, hy7'⟩)) [0, 1, 2, 5, 6] [3, 4, 7, 8, 9] [true, true, true, false, false, true, true] [false, false, false, true, true, false, false, true, true, true] rfl ⟨rfl, rfl⟩ (by kernel_rfl) (by kernel_rfl) (fun _ _ d _ _ h => by cases d <;> exact h) ?_
        apply Exists.intro
        refine ⟨?_, ?_⟩
        · intro E
          simp only [sel_t, sel_f, sel_n]
          repeat (go_big_quiet_step ((fail)))
          exact wpQuiet_nil rfl
        simp only [sel_t, sel_f, sel_n, loudly_cons, loudly_nil]
        go_wp2_with (first | (go_at_call 46; ((with_reducible refine (HP3.out _).mono ?_); rintro e w1 ⟨g3, rfl, x1⟩; obtain ⟨p3, rfl, q3⟩ := x1.wd; clear x1)))
        refine ⟨(by first | exact ⟨⟨_, _⟩, y7, hy7', by rw [wd_merge]⟩ | exact ⟨(⟨_, _⟩, ⟨y7, hy7'⟩), by rw [wd_merge]⟩), ?_⟩
        rw [loudly_cons]
        go_wp2_with (first | (at_builtin; refine at_append_keep1 hI rfl _ _ rfl rfl hk7 rfl q3 (by simp only [List.length_append]; omega) ?_; clear hk7 q3; intro v8 e8 y8 n8 hy8 hk8))
        have hy8' := hy8.trans hy7'
        refine ⟨(by first | exact ⟨⟨_, _⟩, y8, hy8', rfl⟩ | exact ⟨(⟨_, _⟩, ⟨y8, hy8'⟩), rfl⟩), ?_⟩
        rw [loudly_cons]
        go_wp2_with (first | (go_at_call 46; ((with_reducible refine (HP4.out _).mono ?_); rintro e w1 ⟨g4, rfl, x1⟩; obtain ⟨p4, rfl, q4⟩ := x1.wd; clear x1)))
        refine ⟨(by first | exact ⟨⟨_, _⟩, y8, hy8', by rw [wd_merge]⟩ | exact ⟨(⟨_, _⟩, ⟨y8, hy8'⟩), by rw [wd_merge]⟩), ?_⟩
        rw [loudly_cons]
        go_wp2_with (first | (at_builtin; refine at_append_keep1 hI rfl _ _ rfl rfl hk8 rfl q4 (by simp only [List.length_append]; omega) ?_; clear hk8 q4; intro v9 e9 y9 n9 hy9 hk9))
        have hy9' := hy9.trans hy8'
        refine ⟨(by first | exact ⟨⟨_, _⟩, y9, hy9', rfl⟩ | exact ⟨(⟨_, _⟩, ⟨y9, hy9'⟩), rfl⟩), ?_⟩
        rw [loudly_cons]
        go_wp2
        refine ⟨(by first | exact ⟨⟨_, _⟩, y9, hy9', rfl⟩ | exact ⟨(⟨_, _⟩, ⟨y9, hy9'⟩), rfl⟩), ?_⟩
        rw [loudly_nil]
        go_wp2
        go_roundw
        case rel =>
          refine ⟨k + 1, ⟨_, n9⟩, by omega, by go_num, ?_, by rw [wd_merge, wd_merge]⟩
          rw [hZ, HN.out, ← List.append_assoc, ← List.append_assoc, ← List.append_assoc]
          exact keep_row hk9
        case measure => simp [intOf]; omega
      · have hall : rows.take k = rows := List.take_of_length_le (by omega)
        rw [hall] at hrow
        go_wp2
        exact bodyPost_ret (v := .tuple #[u5, .int .i64 0]) (by simp [results, Try.results22, go_sem]) rfl ⟨u5, by rw [HP.out], vfin2 hrow (by rw [HP.out, HL.out])⟩
  · have HP : Hid (viewPut v = ([], viewCheck v)) := Lib.hid (by unfold viewPut; rw [if_pos hn])
    generalize viewPut v = R at HP ⊢
    generalize viewCheck v = E at *
    have hne : (E == 0) = false := by rw [beq_eq_false_iff_ne]; exact hn
    have hne2 : (E != 0) = true := by rw [bne_iff_ne]; exact hn
    obtain ⟨next, rows⟩ := v
    dsimp only at *
    have HR := Lib.hid hr
    clear hr
    unfold maxLen at hl
    refine calls_wd ?_
    go_enter Try.func22, Try.ntmps22
    go_wp2_with (first | (go_at_call 8; ((with_reducible refine (hck.out _ (HR.out.more (more_wd _ _ _))).mono ?_); rintro e w1 ⟨rfl, x1, n1, rfl⟩)))
    exact bodyPost_ret (v := .tuple #[.slice none 0 0, .int .i64 E]) (by simp [results, Try.results22, go_sem]) rfl ⟨_, by rw [HP.out], by rw [HP.out]; exact bmade_nil _ _ _⟩
end Go.Proofs.Ytlanghikmccmbaa
/- view, plain: what is laid is read. -/
namespace Go.Proofs.Ytlanghikmccmbaa
open Go.RowKit
set_option linter.unusedVariables false
set_option linter.unusedSimpArgs false

/-- One row off bytes: the row, what is left, the error. -/
def rdA (l : List UInt8) (e : Int) : List UInt8 × Int × List UInt8 := txt l e 64
def rdB (l : List UInt8) (e : Int) : List UInt8 × Int × List UInt8 := txt (rdA l e).1 (rdA l e).2.1 512
def rdC (l : List UInt8) (e : Int) : List UInt8 × Int := (numL (rdB l e).1 (rdB l e).2.1, numE (rdB l e).1 (rdB l e).2.1)
def rdD (l : List UInt8) (e : Int) : List UInt8 × Int := (numL (rdC l e).1 (rdC l e).2, numE (rdC l e).1 (rdC l e).2)
def rdRow (l : List UInt8) (e : Int) : VRow := ⟨(rdA l e).2.2, (rdB l e).2.2, numV (rdB l e).1 (rdB l e).2.1, numV (rdC l e).1 (rdC l e).2⟩
/-- What is left behind k rows; the first k. -/
def rdSt : Nat → List UInt8 → Int → List UInt8 × Int
  | 0, l, e => (l, e)
  | k + 1, l, e => rdD (rdSt k l e).1 (rdSt k l e).2
def rdRows (n : Nat) (l : List UInt8) (e : Int) : List VRow := (List.range n).map fun k => rdRow (rdSt k l e).1 (rdSt k l e).2
theorem rdRows_succ (n : Nat) (l : List UInt8) (e : Int) : rdRows (n + 1) l e = rdRows n l e ++ [rdRow (rdSt n l e).1 (rdSt n l e).2] := by
  simp [rdRows, List.range_succ]
theorem rdRows_len (n : Nat) (l : List UInt8) (e : Int) : (rdRows n l e).length = n := by simp [rdRows]
def RowOk (x : VRow) : Prop := x.key.length ≤ 64 ∧ x.value.length ≤ 512 ∧ I64 x.offset ∧ I64 x.time
theorem vtext_textL (s : List UInt8) : text (str s) = textL s := by
  unfold text textL
  rw [str_size]; rfl
theorem rd_put {x : VRow} (h : RowOk x) (rest : List UInt8) : rdRow (rowB x ++ rest) 0 = x ∧ rdD (rowB x ++ rest) 0 = (rest, 0) := by
  obtain ⟨k, v, o, t⟩ := x
  obtain ⟨h1, h2, h3, h4⟩ := h
  dsimp only at h1 h2 h3 h4
  have e0 : rowB ⟨k, v, o, t⟩ ++ rest = textL k ++ (textL v ++ (put o ++ (put t ++ rest))) := by
    unfold rowB
    rw [vtext_textL, vtext_textL]
    simp only [List.append_assoc]
  rw [e0]
  have a := txt_text k 64 (by omega) (by omega) (textL v ++ (put o ++ (put t ++ rest)))
  have b := txt_text v 512 (by omega) (by omega) (put o ++ (put t ++ rest))
  obtain ⟨c1, c2, c3⟩ := num_put o h3 (put t ++ rest)
  obtain ⟨d1, d2, d3⟩ := num_put t h4 rest
  have hA : rdA (textL k ++ (textL v ++ (put o ++ (put t ++ rest)))) 0 = (textL v ++ (put o ++ (put t ++ rest)), 0, k) := a
  have hB : rdB (textL k ++ (textL v ++ (put o ++ (put t ++ rest)))) 0 = (put o ++ (put t ++ rest), 0, v) := by unfold rdB; rw [hA]; exact b
  have hC : rdC (textL k ++ (textL v ++ (put o ++ (put t ++ rest)))) 0 = (put t ++ rest, 0) := by unfold rdC; rw [hB]; simp only; rw [c1, c2]
  refine ⟨?_, ?_⟩
  · unfold rdRow
    rw [hA, hB, hC]
    simp only
    rw [c3, d3]
  · unfold rdD
    rw [hC]
    simp only
    rw [d1, d2]
theorem rowsB_cons (x : VRow) (l : List VRow) : rowsB (x :: l) = rowB x ++ rowsB l := by simp [rowsB]
theorem rdSt_put : ∀ (k : Nat) (rs : List VRow) (rest : List UInt8), (∀ r ∈ rs, RowOk r) → k ≤ rs.length → rdSt k (rowsB rs ++ rest) 0 = (rowsB (rs.drop k) ++ rest, 0)
  | 0, rs, rest, _, _ => rfl
  | k + 1, rs, rest, hw, hk => by
    have h := rdSt_put k rs rest hw (by omega)
    unfold rdSt
    have hlt : k < rs.length := hk
    rw [h, List.drop_eq_getElem_cons hlt]
    have e : rowsB (rs[k] :: rs.drop (k + 1)) ++ rest = rowB rs[k] ++ (rowsB (rs.drop (k + 1)) ++ rest) := by rw [rowsB_cons, List.append_assoc]
    rw [e]
    exact (rd_put (hw _ (List.getElem_mem hlt)) _).2
theorem rdRows_put (rs : List VRow) (rest : List UInt8) (hw : ∀ r ∈ rs, RowOk r) : ∀ (n : Nat), n ≤ rs.length → rdRows n (rowsB rs ++ rest) 0 = rs.take n
  | 0, _ => by simp [rdRows]
  | n + 1, hn => by
    have hlt : n < rs.length := hn
    have e : rowsB (rs[n] :: rs.drop (n + 1)) ++ rest = rowB rs[n] ++ (rowsB (rs.drop (n + 1)) ++ rest) := by rw [rowsB_cons, List.append_assoc]
    rw [rdRows_succ, rdRows_put rs rest hw n (by omega), rdSt_put n rs rest hw (by omega), List.drop_eq_getElem_cons hlt, e, (rd_put (hw _ (List.getElem_mem hlt)) _).1, ← List.take_succ_eq_append_getElem hlt]
/-- What stands ahead of the rows. -/
def vNext (l : List UInt8) : Int := numV l 0
def vCnt (l : List UInt8) : Int := numV (numL l 0) (numE l 0)
def vSt (l : List UInt8) : List UInt8 × Int := (numL (numL l 0) (numE l 0), numE (numL l 0) (numE l 0))
def vN (l : List UInt8) : Nat := (max 0 (min (vCnt l) 4097)).toNat
def viewDec (k : Nat) (l : List UInt8) : Vw := ⟨vNext l, rdRows k (vSt l).1 (vSt l).2⟩
/-- A view off bytes, and the error. -/
def viewGet (l : List UInt8) : Vw × Int := if viewPut (viewDec (vN l) l) = (l, 0) then (viewDec (vN l) l, 0) else (Vw.zero, 4)
theorem viewPut_ok {v : Vw} {l : List UInt8} (h : viewPut v = (l, 0)) : l = viewLay v ∧ viewCheck v = 0 := by
  unfold viewPut at h
  by_cases hc : viewCheck v = 0
  · rw [if_neg (by rw [hc]; simp)] at h
    exact ⟨(congrArg Prod.fst h).symm, hc⟩
  · rw [if_pos hc] at h
    have := congrArg Prod.snd h
    exact absurd this hc
theorem view_facts {v : Vw} {l : List UInt8} (h : viewPut v = (l, 0)) : viewDec (vN l) l = v ∧ vN l = v.rows.length ∧ (∀ k, k ≤ vN l → (rdSt k (vSt l).1 (vSt l).2).2 = 0) := by
  obtain ⟨rfl, hc⟩ := viewPut_ok h
  obtain ⟨⟨n1, n2⟩, h4, hf⟩ := view_fit hc
  have hw : ∀ r ∈ v.rows, RowOk r := fun r hr => by
    have := hf r hr
    exact ⟨this.k, this.v, ⟨this.o1, this.o2⟩, ⟨this.t1, this.t2⟩⟩
  have e0 : viewLay v = put v.next ++ (put (v.rows.length : Int) ++ (rowsB v.rows ++ [])) := by unfold viewLay; simp [List.append_assoc]
  obtain ⟨a1, a2, a3⟩ := num_put v.next ⟨n1, n2⟩ (put (v.rows.length : Int) ++ (rowsB v.rows ++ []))
  obtain ⟨b1, b2, b3⟩ := num_put (v.rows.length : Int) ⟨by omega, by omega⟩ (rowsB v.rows ++ [])
  rw [← e0] at a1 a2 a3
  have hS : vSt (viewLay v) = (rowsB v.rows ++ [], 0) := by unfold vSt; rw [a1, a2, b1, b2]
  have hN : vN (viewLay v) = v.rows.length := by unfold vN vCnt; rw [a1, a2, b3]; omega
  refine ⟨?_, hN, fun k hk => ?_⟩
  · unfold viewDec
    rw [hS, hN]
    simp only
    rw [rdRows_put v.rows [] hw _ (Nat.le_refl _), List.take_length]
    unfold vNext
    rw [a3]
  · rw [hS]
    simp only
    rw [rdSt_put k v.rows [] hw (by omega)]
theorem viewGet_put {v : Vw} {l : List UInt8} (h : viewPut v = (l, 0)) : viewGet l = (v, 0) := by
  obtain ⟨hd, _⟩ := view_facts h
  unfold viewGet
  rw [hd, if_pos h]
theorem viewGet_no {l : List UInt8} (h : ∀ v, viewPut v ≠ (l, 0)) : viewGet l = (Vw.zero, 4) := by
  unfold viewGet
  rw [if_neg (h _)]
theorem vtxt_len (l : List UInt8) (e most : Int) (hm : 0 ≤ most) : ((txt l e most).2.2.length : Int) ≤ most := by
  unfold txt
  split
  · simpa using hm
  · split
    · simpa using hm
    · split
      · simpa using hm
      · next h1 h2 h3 =>
        simp only [List.length_take]
        omega
theorem rdRows_small (n : Nat) (l : List UInt8) (e : Int) : ∀ x ∈ rdRows n l e, x.key.length ≤ maxLen ∧ x.value.length ≤ maxLen := by
  intro x hx
  simp only [rdRows, List.mem_map] at hx
  obtain ⟨k, _, rfl⟩ := hx
  have h1 := vtxt_len (rdSt k l e).1 (rdSt k l e).2 64 (by omega)
  have h2 := vtxt_len (rdA (rdSt k l e).1 (rdSt k l e).2).1 (rdA (rdSt k l e).1 (rdSt k l e).2).2.1 512 (by omega)
  unfold maxLen
  exact ⟨by show (txt _ _ _).2.2.length ≤ _; omega, by show (txt _ _ _).2.2.length ≤ _; omega⟩
end Go.Proofs.Ytlanghikmccmbaa
