/- wire: alien. -/
import Derived.Test.YtejokhgabcldhaaMI
import Derived.Test.YtejokhgabcldhaaMG
import Derived.Deep.LoopGhost
namespace Go.Proofs.Ytejokhgabcldhaa
open Go.ChangeShapes Go.WideShapes Go.ChangeAt Go.RowKit
set_option linter.unusedVariables false
set_option linter.unusedSimpArgs false

theorem foldl_take {α β : Type} (f : β → α → β) (b : β) (l : List α) (j : Nat) (c : α) (h : l[j]? = some c) : (l.take (j + 1)).foldl f b = f ((l.take j).foldl f b) c := by
  rw [take_get l j c h, List.foldl_append]; rfl
theorem zero_kind (q : Req) (c : UInt8) : (reqZero q c).kind = q.kind := by
  unfold reqZero
  simp only [apply_ite Req.kind, ite_self]
theorem zero_batch (q : Req) (c : UInt8) (h : c ≠ 98) : (reqZero q c).batch = q.batch := by
  unfold reqZero
  simp only [apply_ite Req.batch, ite_self, if_neg h]
theorem own_push {w : World} {L : List (Array Obj)} {n k : Nat} {o : Obj} {d : Array Obj} (h : (wd w L n).heap[k]? = some o) : (wd w (d :: L) n).heap[k]? = some o := by
  have e1 : wd w (d :: L) n = plus (wd w L n) d n := rfl
  rw [e1, plus_block _ _ _ _ (Array.getElem?_eq_some_iff.1 h).1]
  exact h
theorem own_top (w : World) (L : List (Array Obj)) (n : Nat) (o : Obj) : (wd w (#[o] :: L) n).heap[sz w.heap.size (shape L)]? = some o := wd_at w L n _ _ _ rfl rfl
theorem zero_kinds (cs : List UInt8) : ∀ q : Req, (cs.foldl reqZero q).kind = q.kind := by
  induction cs with
  | nil => intro q; rfl
  | cons c cs ih => intro q; rw [List.foldl_cons, ih, zero_kind]
theorem recs_zero {w : World} {q : Req} {a : Option Addr} {c : UInt8} (h : RecsAt w a q.batch.recs) : RecsAt w (zA c a) (reqZero q c).batch.recs := by
  unfold zA
  by_cases hc : c = 98
  · subst hc; rw [if_pos rfl]; exact RowAt.nil _
  · rw [if_neg hc]
    rw [zero_batch q c hc]; exact h
theorem recs_zero_len {q : Req} {c : UInt8} (h : q.batch.recs.length ≤ maxLen) : (reqZero q c).batch.recs.length ≤ maxLen := by
  by_cases hc : c = 98
  · subst hc; exact Nat.zero_le _
  · rw [zero_batch q c hc]; exact h
set_option maxRecDepth 100000 in
set_option maxHeartbeats 6400000 in
theorem alien_any (xk : Nat) (xtp : List UInt8) (xix xpa : Int) (xco xfl : Bool) (xof xmo xti : Int) (xgr xme : List UInt8) (xge xb0 xb1 xb2 xb3 xb4 : Int) (xrs : List Rec) (a : Option Addr) (cap : Nat) (w : World) (hk : xk < 256) (hr : RecsAt w a xrs) (hm : xrs.length ≤ maxLen) :
    Calls Try.prog 95 #[.agg #[.int .u8 (xk : Nat), .string (str xtp), .int .i64 xix, .int .i64 xpa, .bool xco, .bool xfl, .int .i64 xof, .int .i64 xmo, .int .i64 xti, .string (str xgr), .string (str xme), .int .i64 xge, .int .i64 xb0, .int .i64 xb1, .int .i64 xb2, .int .i64 xb3, .int .i64 xb4, .slice a xrs.length cap]] w fun e w' => e = .returned (.bool (decide (reqClean ⟨xk, xtp, xix, xpa, xco, xfl, xof, xmo, xti, xgr, xme, xge, ⟨xb0, xb1, xb2, xb3, xb4, xrs⟩⟩ ≠ reqBlank xk))) ∧ More w w' := by
  have HCL : Hid (reqClean ⟨xk, xtp, xix, xpa, xco, xfl, xof, xmo, xti, xgr, xme, xge, ⟨xb0, xb1, xb2, xb3, xb4, xrs⟩⟩ = (usesL xk).foldl reqZero ⟨xk, xtp, xix, xpa, xco, xfl, xof, xmo, xti, xgr, xme, xge, ⟨xb0, xb1, xb2, xb3, xb4, xrs⟩⟩) := Lib.hid rfl
  generalize reqClean ⟨xk, xtp, xix, xpa, xco, xfl, xof, xmo, xti, xgr, xme, xge, ⟨xb0, xb1, xb2, xb3, xb4, xrs⟩⟩ = CL at HCL ⊢
  have HK : Hid (CL.kind = xk) := Lib.hid (by rw [HCL.out, zero_kinds])
  have hU := uses_any xk hk
  have HAS := Lib.hid (uses_ascii xk)
  have HLT := Lib.hid (uses_letters xk)
  generalize usesL xk = cs at HCL hU HAS HLT
  have HR := Lib.hid hr
  have HM := Lib.hid hm
  clear hr hm
  refine calls_wd ?_
  go_enter Try.func95, Try.ntmps95
  go_wp2_with (first | (go_at_call 97; ((with_reducible refine (hU _).mono ?_); rintro e w1 ⟨rfl, x1, n1, rfl⟩)))
  go_loopg [4] cs.length (fun g c wr => ∃ (j : Nat) (q : Req) (a' : Option Addr) (cap' : Nat), j + g = cs.length ∧ Hid ((cs.take j).foldl reqZero ⟨xk, xtp, xix, xpa, xco, xfl, xof, xmo, xti, xgr, xme, xge, ⟨xb0, xb1, xb2, xb3, xb4, xrs⟩⟩ = q) ∧ Hid (RecsAt w a' q.batch.recs) ∧ Hid (q.batch.recs.length ≤ maxLen) ∧ wr = wd w [#[.stringIter (str cs) j], x1, #[qob q a' cap']] n1)
  case atStart => exact ⟨0, ⟨xk, xtp, xix, xpa, xco, xfl, xof, xmo, xti, xgr, xme, xge, ⟨xb0, xb1, xb2, xb3, xb4, xrs⟩⟩, a, cap, by omega, Lib.hid rfl, HR, HM, rfl⟩
  case round =>
    obtain ⟨j, q, a', cap', hjg, HQ, HRA, HML, rfl⟩ := hrel
    have hb : (wd w [#[.stringIter (str cs) j], x1, #[qob q a' cap']] n1).heap[sz w.heap.size [x1.size, 1]]? = some (.stringIter (str cs) j) := wd_at w _ _ _ _ _ rfl rfl
    by_cases hlt : j < cs.length
    · obtain ⟨c, hx⟩ : ∃ c, cs[j]? = some c := ⟨_, List.getElem?_eq_getElem hlt⟩
      have nx := fun ty => next_yes _ _ j cs c ty hb hx (HAS.out c (List.mem_of_getElem? hx))
      have hz := zero_any q a' cap' (sz w.heap.size []) c (HLT.out c (List.mem_of_getElem? hx))
      have HZ := Lib.hid (hz (wd w [#[.stringIter (str cs) (j + 1)], x1, #[qob q a' cap']] n1) (own_push (own_push (own_top w [] n1 _))))
      have HN : Hid ((cs.take (j + 1)).foldl reqZero ⟨xk, xtp, xix, xpa, xco, xfl, xof, xmo, xti, xgr, xme, xge, ⟨xb0, xb1, xb2, xb3, xb4, xrs⟩⟩ = reqZero q c) := Lib.hid (by rw [foldl_take _ _ _ _ _ hx, HQ.out])
      clear hx hb hz
      go_wp2_with (first | (go_at_call 133; ((with_reducible refine HZ.out.mono ?_); rintro e w2 ⟨rfl, rfl⟩)))
      go_roundg (gk - 1)
      case measure => omega
      case rel => exact ⟨j + 1, reqZero q c, zA c a', zC c cap', by omega, HN, Lib.hid (recs_zero HRA.out), Lib.hid (recs_zero_len HML.out), rfl⟩
    · have nx := fun ty => next_no _ _ j cs ty hb (by omega)
      clear hb
      obtain ⟨qk, qtp, qix, qpa, qco, qfl, qof, qmo, qti, qgr, qme, qge, qb0, qb1, qb2, qb3, qb4, qrs⟩ := q
      have hqk : qk = xk := by
        have h1 := congrArg Req.kind HQ.out
        rw [zero_kinds] at h1
        exact h1.symm
      subst hqk
      have HCQ : Hid (CL = ⟨qk, qtp, qix, qpa, qco, qfl, qof, qmo, qti, qgr, qme, qge, ⟨qb0, qb1, qb2, qb3, qb4, qrs⟩⟩) := Lib.hid (by rw [HCL.out, ← HQ.out, List.take_of_length_le (by omega)])
      have hsm := fun W h1 h2 => same_req qk qtp qix qpa qco qfl qof qmo qti qgr qme qge qb0 qb1 qb2 qb3 qb4 qrs qk [] 0 0 false false 0 0 0 [] [] 0 0 0 0 0 0 [] a' none cap' 0 W h1 h2 HML.out (Nat.zero_le _)
      simp only [show str [] = ⟨#[]⟩ from rfl, List.length_nil] at hsm
      obtain ⟨E, hE⟩ : ∃ E, decide ((⟨qk, qtp, qix, qpa, qco, qfl, qof, qmo, qti, qgr, qme, qge, ⟨qb0, qb1, qb2, qb3, qb4, qrs⟩⟩ : Req) = ⟨qk, [], 0, 0, false, false, 0, 0, 0, [], [], 0, ⟨0, 0, 0, 0, 0, []⟩⟩) = E := ⟨_, rfl⟩
      rw [hE] at hsm
      have HE := Lib.hid hE
      clear hE
      have HSM := Lib.hid hsm
      clear hsm HQ HCL HK hU HAS HLT HR HM
      dsimp only [qob, reqCells] at nx ⊢
      go_wp2_with (first | (go_at_call 56; ((with_reducible refine (HSM.out _ (HRA.out.more (more_wd _ _ _)) (RowAt.nil _)).mono ?_); rintro e w1 ⟨rfl, x1, n1, rfl⟩)))
      go_ret
      exact ⟨ret_b (by rw [HCQ.out, ← HE.out]; exact decide_not.symm), more_wd _ _ _⟩
end Go.Proofs.Ytejokhgabcldhaa
/- Appends to a row of the call's own while a text's iterator stands between. -/
namespace Go.Proofs.Ytejokhgabcldhaa
open Go.ChangeShapes Go.WideShapes Go.ChangeAt Go.RowKit
set_option linter.unusedVariables false
set_option linter.unusedSimpArgs false

theorem hp_get_top (h : Array Obj) (L : List (Array Obj)) (s : Array Obj) (k : Nat) (hk : (hp h L).size ≤ k) : (hp h (s :: L))[k]? = s[k - (hp h L).size]? := by
  show (hp h L ++ s)[k]? = _
  rw [Array.getElem?_append, if_neg (by omega)]
theorem hp_get_low (h : Array Obj) (L : List (Array Obj)) (s : Array Obj) (k : Nat) (hk : k < (hp h L).size) : (hp h (s :: L))[k]? = (hp h L)[k]? := by
  show (hp h L ++ s)[k]? = _
  rw [Array.getElem?_append, if_pos hk]
/-- What an append leaves, seen around an iterator. -/
theorem grown_iter {w W' : World} {L : List (Array Obj)} {n : Nat} {e Y : Array Obj} {I : Obj} {row : Option Nat} (hg : (wd w (e :: #[I] :: Y :: L) n).grownBy W' row)
    (hr : ∀ k, row = some k → sz w.heap.size (shape L) ≤ k ∧ k ≠ sz w.heap.size (shape (Y :: L))) :
    ∃ e' Y' n', Y'.size = Y.size ∧ W' = wd w (e' :: #[I] :: Y' :: L) n' := by
  have hsz : (wd w (e :: #[I] :: Y :: L) n).heap.size = (hp w.heap L).size + Y.size + 1 + e.size := by
    show (((hp w.heap L ++ Y) ++ #[I]) ++ e).size = _
    simp only [Array.size_append]; rfl
  have hN := hg.size
  rw [hsz] at hN
  have hLs : (hp w.heap L).size = sz w.heap.size (shape L) := hp_size _ _
  have hYs : sz w.heap.size (shape (Y :: L)) = (hp w.heap L).size + Y.size := by rw [hLs]; rfl
  refine ⟨W'.heap.extract ((hp w.heap L).size + Y.size + 1) W'.heap.size, W'.heap.extract (hp w.heap L).size ((hp w.heap L).size + Y.size), W'.drawn, ?_, ?_⟩
  · simp only [Array.size_extract]; omega
  · refine world_ext ?_ hg.tape rfl hg.os hg.output
    have hYz : (W'.heap.extract (hp w.heap L).size ((hp w.heap L).size + Y.size)).size = Y.size := by simp only [Array.size_extract]; omega
    apply Array.ext_getElem?
    intro k
    show W'.heap[k]? = (((hp w.heap L ++ _) ++ #[I]) ++ _)[k]?
    have keep : ∀ k, k < (hp w.heap L).size + Y.size + 1 + e.size → (∀ g, row = some g → k ≠ g) → W'.heap[k]? = (wd w (e :: #[I] :: Y :: L) n).heap[k]? := fun k hk hne => hg.block k (by rw [hsz]; exact hk) (fun h => hne k h.symm rfl)
    by_cases h1 : k < (hp w.heap L).size
    · rw [keep k (by omega) (fun g hgr => by have := (hr g hgr).1; omega)]
      have e1 : (wd w (e :: #[I] :: Y :: L) n).heap[k]? = (hp w.heap L)[k]? := by
        show (((hp w.heap L ++ Y) ++ #[I]) ++ e)[k]? = _
        rw [Array.getElem?_append, if_pos (by simp only [Array.size_append]; omega), Array.getElem?_append, if_pos (by simp only [Array.size_append]; omega), Array.getElem?_append, if_pos h1]
      rw [e1, Array.getElem?_append, if_pos (by simp only [Array.size_append, hYz]; omega), Array.getElem?_append, if_pos (by simp only [Array.size_append, hYz]; omega), Array.getElem?_append, if_pos h1]
    · by_cases h2 : k < (hp w.heap L).size + Y.size
      · rw [Array.getElem?_append, if_pos (by simp only [Array.size_append, hYz]; omega), Array.getElem?_append, if_pos (by simp only [Array.size_append, hYz]; omega), Array.getElem?_append, if_neg h1, Array.getElem?_extract]
        rw [if_pos (by omega), show (hp w.heap L).size + (k - (hp w.heap L).size) = k by omega]
      · by_cases h3 : k = (hp w.heap L).size + Y.size
        · rw [keep k (by omega) (fun g hgr => by have := (hr g hgr).2; omega)]
          have e1 : (wd w (e :: #[I] :: Y :: L) n).heap[k]? = some I := by
            show (((hp w.heap L ++ Y) ++ #[I]) ++ e)[k]? = _
            rw [Array.getElem?_append, if_pos (by simp only [Array.size_append]; simp; omega), Array.getElem?_append, if_neg (by simp only [Array.size_append]; omega)]
            simp [Array.size_append, h3]
          rw [e1, Array.getElem?_append, if_pos (by simp only [Array.size_append, hYz]; simp; omega), Array.getElem?_append, if_neg (by simp only [Array.size_append, hYz]; omega)]
          rw [show k - (hp w.heap L ++ W'.heap.extract (hp w.heap L).size ((hp w.heap L).size + Y.size)).size = 0 by rw [Array.size_append, hYz]; omega]
          rfl
        · rw [Array.getElem?_append, if_neg (by simp only [Array.size_append, hYz]; simp; omega), Array.getElem?_extract]
          have hs : ((hp w.heap L ++ W'.heap.extract (hp w.heap L).size ((hp w.heap L).size + Y.size)) ++ #[I]).size = (hp w.heap L).size + Y.size + 1 := by simp only [Array.size_append, hYz]; rfl
          rw [hs]
          by_cases h4 : k < W'.heap.size
          · rw [if_pos (by omega), show (hp w.heap L).size + Y.size + 1 + (k - ((hp w.heap L).size + Y.size + 1)) = k by omega]
          · rw [if_neg (by omega), Array.getElem?_eq_none (by omega)]
/-- The bytes l are the call's own, from the piece above L on. -/
abbrev BOwn (W w : World) (L : List (Array Obj)) (v : Value) (l : List UInt8) : Prop := W.ownsRow (sz w.heap.size (shape L)) 5 1 v l.length (Lib.byteCells l)
theorem bown_of {w : World} {L : List (Array Obj)} {m : Array Obj} {n : Nat} {v : Value} {l : List UInt8} (h : BRow w L m v l) : BOwn (wd w (m :: L) n) w L v l := owns_of_row h
theorem bown_push {W w : World} {L : List (Array Obj)} {v : Value} {l : List UInt8} (h : BOwn W w L v l) (e : Array Obj) (n : Nat) : BOwn (plus W e n) w L v l := by
  obtain ⟨h1, h2⟩ := h
  refine ⟨h1, ?_⟩
  rcases h2 with h2 | ⟨g, cap, cur, hv, hg, he, r⟩
  · exact .inl h2
  · exact .inr ⟨g, cap, cur, hv, hg, by rw [plus_block _ _ _ _ (Array.getElem?_eq_some_iff.1 he).1]; exact he, r⟩
/-- The iterator moves on. -/
theorem bown_iter {w : World} {L : List (Array Obj)} {e Y : Array Obj} {n : Nat} {s : ByteArray} {j j' : Nat} {v : Value} {l : List UInt8} (h : BOwn (wd w (e :: #[.stringIter s j] :: Y :: L) n) w L v l) : BOwn (wd w (e :: #[.stringIter s j'] :: Y :: L) n) w L v l := by
  obtain ⟨h1, h2⟩ := h
  refine ⟨h1, ?_⟩
  rcases h2 with h2 | ⟨g, cap, cur, hv, hg, he, r⟩
  · exact .inl h2
  · refine .inr ⟨g, cap, cur, hv, hg, ?_, r⟩
    have hb : bset (wd w (e :: #[.stringIter s j] :: Y :: L) n) (sz w.heap.size (shape (Y :: L))) (.stringIter s j') = wd w (e :: #[.stringIter s j'] :: Y :: L) n := by
      rw [bset_wd_past _ _ _ _ _ _ _ rfl (by simp [shape, inn]), bset_wd _ _ _ _ _ _ _ rfl rfl]; rfl
    rw [← hb, bset_other _ _ _ _ (fun hk => ?_)]
    · exact he
    · subst hk
      rw [own_push (own_top w (Y :: L) n _)] at he
      cases he
theorem bown_made {w : World} {L : List (Array Obj)} {M : List (Array Obj)} {n : Nat} {v : Value} {l : List UInt8} (h : BOwn (wd w M n) w L v l) : BMade w (wd w M n) v l := by
  obtain ⟨x, k, hx⟩ := more_wd w M n
  have hx' : wd w M n = wd w [x] k := hx
  rw [hx'] at h ⊢
  refine made_of (row_of_owns (L := []) (k := k) ?_)
  obtain ⟨h1, h2⟩ := h
  refine ⟨h1, ?_⟩
  rcases h2 with h2 | ⟨g, cap, cur, hv, hg, r⟩
  · exact .inl h2
  · exact .inr ⟨g, cap, cur, hv, by have := sz_ge w.heap.size (shape L); show w.heap.size ≤ g; omega, r⟩
/-- 'append(v, u...)', an iterator between. -/
theorem at_append_iter {ops : Array Oper} {rest : List Oper} {o : Oper} {a : Act} {Q : Exit → Act → World → Prop} {w : World} {L : List (Array Obj)} {n : Nat} {e Y : Array Obj} {s0 : ByteArray} {j : Nat} {v u : Value} {l l2 : List UInt8}
    (hgd : o.guard = none) (s x : Operand) (ho : o.op = .call { callee := .builtin .append, args := #[s, x], argTypes := #[28, 28] })
    (hs : a.eval s = v) (hown : BOwn (wd w (e :: #[.stringIter s0 j] :: Y :: L) n) w L v l) (hx : a.eval x = u) (hsrc : RB (wd w (e :: #[.stringIter s0 j] :: Y :: L) n) u l2) (hlen : l.length + l2.length ≤ 1099511627776)
    (h : ∀ (v' : Value) (e' Y' : Array Obj) (n' : Nat), Y'.size = Y.size → BOwn (wd w (e' :: #[.stringIter s0 j] :: Y' :: L) n') w L v' (l ++ l2) → wpList Try.prog ops Q rest (a.put o.dst v') (wd w (e' :: #[.stringIter s0 j] :: Y' :: L) n')) :
    wpList Try.prog ops Q (o :: rest) a (wd w (e :: #[.stringIter s0 j] :: Y :: L) n) := by
  obtain ⟨i0, hi, hz0, hz1, hz2⟩ := info_parts info_u8
  have hr : ∀ k, v.ownBlock = some k → sz w.heap.size (shape L) ≤ k ∧ k ≠ sz w.heap.size (shape (Y :: L)) := fun k hk => by
    rcases hown.2 with ⟨rfl, _⟩ | ⟨g, cap, cur, rfl, hg, he, _⟩
    · simp [Value.ownBlock] at hk
    · simp only [Value.ownBlock, Option.some.injEq] at hk
      subst hk
      refine ⟨hg, fun hk => ?_⟩
      subst hk
      rw [own_push (own_top w (Y :: L) n _)] at he
      cases he
  have hbase : sz w.heap.size (shape L) ≤ (wd w (e :: #[.stringIter s0 j] :: Y :: L) n).heap.size := by rw [wd_size, shape_cons, shape_cons, shape_cons]; simp only [sz]; omega
  have hl2 : l2.length * 1 = l2.length := Nat.mul_one _
  have fin : ∀ (ad : Addr) (c : Nat), u = .slice (some ad) l2.length c → (∀ j' u', (Lib.byteCells l2)[j']? = some u' → (wd w (e :: #[.stringIter s0 j] :: Y :: L) n).cell? (ad.add j') = some u') → wpList Try.prog ops Q (o :: rest) a (wd w (e :: #[.stringIter s0 j] :: Y :: L) n) := fun ad c hu hc => by
    refine wpList_append_own _ hgd s x 28 ho (sz w.heap.size (shape L)) 5 i0 _ 1 1 Try.underlying28 hi hz0 hz1 hz2 rfl (by decide) v _ _ hs hown ad l2.length c (Lib.byteCells l2) (by rw [hx, hu]) (by rw [bc_len, hl2]) hc (bc_one l2) (by unfold maxLen; omega) (by omega) hbase ?_
    intro v' w' hown' hg _
    obtain ⟨e', Y', n', hY, rfl⟩ := grown_iter hg hr
    refine h v' e' Y' n' hY ?_
    have e1 : l.length + l2.length = (l ++ l2).length := List.length_append.symm
    rw [← bc_append, e1] at hown'
    exact hown'
  obtain ⟨a0, c, rfl, hc1, hc2, hc3⟩ := hsrc
  by_cases hne : l2 = []
  · subst hne
    cases a0 with
    | some ad => exact fin ad c rfl (fun j' u' hu => by simp [Lib.byteCells] at hu)
    | none =>
      refine wpList_plain hgd fun K hK' => ?_
      have hrun := run_append_own_none (P := Try.prog) (wd w (e :: #[.stringIter s0 j] :: Y :: L) n) (sz w.heap.size (shape L)) 28 o.type 5 i0 1 Try.underlying28 hi v _ _ hown c
      have h2 := h v e Y n rfl (by simpa using hown)
      unfold Oper.wp
      simp [execOp, ho, resolve, invoke, builtin, hs, hx, hrun, Result.andThen]
      exact hK' _ _ h2
  · obtain ⟨b, off, rfl, hb, hc⟩ := hc3 hne
    refine fin ⟨b, off, none⟩ c rfl fun j' u' hu => ?_
    have hj : j' < l2.length := by rw [← bc_len l2]; exact (List.getElem?_eq_some_iff.1 hu).1
    rw [addr_add, hc j' hj, hu]
end Go.Proofs.Ytejokhgabcldhaa
/- wire: PutRequest: small laws. -/
namespace Go.Proofs.Ytejokhgabcldhaa
open Go.ChangeShapes Go.WideShapes Go.ChangeAt Go.RowKit
set_option linter.unusedVariables false
set_option linter.unusedSimpArgs false

def max3 (x y z : Int) : Int := if z > (if y > x then y else x) then z else (if y > x then y else x)
theorem max3_le (x y z b : Int) : max3 x y z ≤ b ↔ x ≤ b ∧ y ≤ b ∧ z ≤ b := by unfold max3; split <;> split <;> omega
theorem run_max3 {P : Program} (ts : Array TypeId) (t : TypeId) (k k' k'' : IntKind) (x y z : Int) (w : World) : (Builtin.max_ ts t #[.int k x, .int k' y, .int k'' z]).run P w = .ok (.int k (max3 x y z)) w := run_max_int3 w ts t k k' k'' x y z
attribute [local go_sem 2000] run_max3
theorem field_len (q : Req) (body : List UInt8) (c : UInt8) (hw : q.wf) (ht : q.topic.length ≤ 255) (hg : q.group.length ≤ 255) (hk : q.member.length ≤ 255) (hb : body.length ≤ 8192) : (reqField q body c).length ≤ 8300 := by
  obtain ⟨w1, w2, w3, w4, w5, w6⟩ := hw
  have t1 := textL_len ht (by omega)
  have t2 := textL_len hg (by omega)
  have t3 := textL_len hk (by omega)
  have t4 := textL_len hb (by omega)
  have p1 := put_len w1.1 w1.2
  have p2 := put_len w2.1 w2.2
  have p3 := put_len w3.1 w3.2
  have p4 := put_len w4.1 w4.2
  have p5 := put_len w5.1 w5.2
  have p6 := put_len w6.1 w6.2
  have f1 : ∀ b, (flagB b).length = 1 := by intro b; cases b <;> rfl
  have f2 := f1 q.compact
  have f3 := f1 q.flush
  have ite_le : ∀ (P : Prop) [Decidable P] (a b : List UInt8), a.length ≤ 8300 → b.length ≤ 8300 → (if P then a else b).length ≤ 8300 := by
    intro P _ a b ha hb; split <;> assumption
  unfold reqField
  repeat (first | omega | apply ite_le)
theorem fields_len (q : Req) (body : List UInt8) (hw : q.wf) (ht : q.topic.length ≤ 255) (hg : q.group.length ≤ 255) (hk : q.member.length ≤ 255) (hb : body.length ≤ 8192) (cs : List UInt8) : (cs.flatMap (reqField q body)).length ≤ 8300 * cs.length := by
  induction cs with
  | nil => simp
  | cons c cs ih =>
    have := field_len q body c hw ht hg hk hb
    rw [List.flatMap_cons, List.length_append, List.length_cons]; omega
theorem flat_take {α : Type} (f : α → List UInt8) (l : List α) (j : Nat) (c : α) (h : l[j]? = some c) : (l.take (j + 1)).flatMap f = (l.take j).flatMap f ++ f c := by
  rw [take_get l j c h]; simp
theorem at_append_iter1 {ops : Array Oper} {rest : List Oper} {o : Oper} {a : Act} {Q : Exit → Act → World → Prop} {w : World} {L : List (Array Obj)} {n n0 : Nat} {m1 e Y : Array Obj} {s0 : ByteArray} {j : Nat} {v u : Value} {l l2 : List UInt8}
    (hgd : o.guard = none) (s x : Operand) (ho : o.op = .call { callee := .builtin .append, args := #[s, x], argTypes := #[28, 28] })
    (hs : a.eval s = v) (hown : BOwn (wd w (e :: #[.stringIter s0 j] :: Y :: L) n0) w L v l) (hx : a.eval x = u) (hsrc : BRow w (e :: #[.stringIter s0 j] :: Y :: L) m1 u l2) (hlen : l.length + l2.length ≤ 1099511627776)
    (h : ∀ (v' : Value) (e' Y' : Array Obj) (n' : Nat), Y'.size = Y.size → BOwn (wd w (e' :: #[.stringIter s0 j] :: Y' :: L) n') w L v' (l ++ l2) → wpList Try.prog ops Q rest (a.put o.dst v') (wd w (e' :: #[.stringIter s0 j] :: Y' :: L) n')) :
    wpList Try.prog ops Q (o :: rest) a (wd w (m1 :: e :: #[.stringIter s0 j] :: Y :: L) n) := by
  have h1 := bown_push hown m1 n
  have h2 := RB.of_row (L := e :: #[.stringIter s0 j] :: Y :: L) (k := n) hsrc _ rfl
  have e1 : plus (wd w (e :: #[.stringIter s0 j] :: Y :: L) n0) m1 n = wd w (m1 :: e :: #[.stringIter s0 j] :: Y :: L) n := rfl
  rw [e1, wd_merge] at h1
  rw [wd_merge] at h2 ⊢
  exact at_append_iter hgd s x ho hs h1 hx h2 hlen h
theorem iter_next {w : World} {L : List (Array Obj)} {e Y : Array Obj} {n b j : Nat} {cs : List UInt8} {c : UInt8} (hb : b = sz w.heap.size (shape (Y :: L))) (hx : cs[j]? = some c) (hc : c.toNat < 128) (ty : TypeId) :
    (Instr.next (.pointer (some ⟨b, 0, none⟩)) true ty).run Try.prog (wd w (e :: #[.stringIter (str cs) j] :: Y :: L) n) = .ok (.tuple #[.bool true, .int .i64 j, .int .i32 c.toNat]) (wd w (e :: #[.stringIter (str cs) (j + 1)] :: Y :: L) n) := by
  subst hb
  rw [next_yes _ _ j cs c ty (own_push (own_top w (Y :: L) n _)) hx hc, bset_wd_past _ _ _ _ _ _ _ rfl (by simp [shape, inn]), bset_wd _ _ _ _ _ _ _ rfl rfl]
  rfl
theorem iter_stop {w : World} {L : List (Array Obj)} {e Y : Array Obj} {n b j : Nat} {cs : List UInt8} (hb : b = sz w.heap.size (shape (Y :: L))) (hx : cs.length ≤ j) (ty : TypeId) :
    (Instr.next (.pointer (some ⟨b, 0, none⟩)) true ty).run Try.prog (wd w (e :: #[.stringIter (str cs) j] :: Y :: L) n) = .ok (.tuple #[.bool false]) (wd w (e :: #[.stringIter (str cs) j] :: Y :: L) n) := by
  subst hb
  exact next_no _ _ j cs ty (own_push (own_top w (Y :: L) n _)) hx
theorem reqPut_kind {q : Req} (h : 11 < q.kind) : reqPut q = ([], 22) := by unfold reqPut; rw [if_pos h]
theorem reqPut_alien {q : Req} (h : ¬ 11 < q.kind) (h2 : reqClean q ≠ reqBlank q.kind) : reqPut q = ([], 4) := by unfold reqPut; rw [if_neg h, if_pos h2]
theorem reqPut_long {q : Req} (h : ¬ 11 < q.kind) (h2 : ¬ reqClean q ≠ reqBlank q.kind) (h3 : ¬ (q.topic.length ≤ 255 ∧ q.group.length ≤ 255 ∧ q.member.length ≤ 255)) : reqPut q = ([], 5) := by
  unfold reqPut; rw [if_neg h, if_neg h2, if_pos (by omega)]
theorem reqPut_go {q : Req} (h : ¬ 11 < q.kind) (h2 : ¬ reqClean q ≠ reqBlank q.kind) (h3 : q.topic.length ≤ 255 ∧ q.group.length ≤ 255 ∧ q.member.length ≤ 255) :
    reqPut q = if q.kind = 3 ∧ (reqBat q).2 ≠ 0 then ([], (reqBat q).2) else if q.kind = 3 ∧ q.batch.base ≠ 0 then ([], 4) else (reqBytes q (if q.kind = 3 then (reqBat q).1 else []), 0) := by
  unfold reqPut; rw [if_neg h, if_neg h2, if_neg (by omega)]
end Go.Proofs.Ytejokhgabcldhaa
