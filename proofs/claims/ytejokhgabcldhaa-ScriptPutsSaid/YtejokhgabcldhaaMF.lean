/- Appends to a row that lies beneath some pieces. -/
import Derived.Test.YtejokhgabcldhaaMC
import Derived.Test.YtejokhgabcldhaaME
namespace Go.Proofs.Ytejokhgabcldhaa
open Go.RowKit
set_option linter.unusedVariables false
set_option linter.unusedSimpArgs false

/-- The piece m with the pieces D (newest first) behind it. -/
def mall (m : Array Obj) : List (Array Obj) → Array Obj
  | [] => m
  | d :: D => mall m D ++ d
theorem hp_mall (h m : Array Obj) (L : List (Array Obj)) : ∀ D, hp h (D ++ m :: L) = hp h (mall m D :: L)
  | [] => rfl
  | d :: D => by
    show hp h (D ++ m :: L) ++ d = hp h L ++ (mall m D ++ d)
    rw [hp_mall h m L D]
    exact Array.append_assoc ..
theorem wd_mall (w : World) (m : Array Obj) (L : List (Array Obj)) (n : Nat) (D : List (Array Obj)) : wd w (D ++ m :: L) n = wd w (mall m D :: L) n := world_ext (hp_mall _ _ _ _) rfl rfl rfl rfl
theorem sz_mall (B : Nat) (m : Array Obj) (L : List (Array Obj)) : ∀ D, sz B (shape (D ++ m :: L)) = sz B (shape (mall m D :: L))
  | [] => rfl
  | d :: D => by
    show sz B (shape (D ++ m :: L)) + d.size = sz B (shape L) + (mall m D ++ d).size
    rw [sz_mall B m L D, Array.size_append]
    show sz B (shape L) + (mall m D).size + d.size = _
    omega
theorem rowIn_mall {B : Nat} {S : List Nat} {m : Array Obj} {E : TypeId} {size : Nat} {v : Value} {n : Nat} {xs : List Value} (h : rowIn B S m E size v n xs) : ∀ D, rowIn B S (mall m D) E size v n xs
  | [] => h
  | d :: D => rowIn_more (rowIn_mall h D) d
theorem wd_mall1 (w : World) (c m : Array Obj) (L : List (Array Obj)) (n : Nat) (D : List (Array Obj)) : wd w (c :: (D ++ m :: L)) n = wd w (c :: mall m D :: L) n := by
  have h := hp_mall w.heap m L D
  exact world_ext (by show hp w.heap (D ++ m :: L) ++ c = hp w.heap (mall m D :: L) ++ c; rw [h]) rfl rfl rfl rfl
/-- 'append(s, x)', x one element, its row beneath the pieces D. -/
theorem wp_append_rowD (D : List (Array Obj)) {P : Program} {ops : Array Oper} {rest : List Oper} {o : Oper} {a : Act} {Q : Exit → Act → World → Prop} (hgd : o.guard = none) (s x : Operand) (t : TypeId)
    (ho : o.op = .call { callee := .builtin .append, args := #[s, x], argTypes := #[t, t] })
    (e : TypeId) (i : TypeInfo) (z : Value) (size bytes : Nat) (ht : P.underlying t = some (.slice e)) (hi : P.info? e = some i) (hz : i.zero = some z)
    (hsize : i.size = size) (hby : i.bytes = bytes) (hzs : z.cells.size = size) (hsz : 0 < size)
    {w : World} {L : List (Array Obj)} {n : Nat} {m : Array Obj} (v : Value) (k : Nat) (xs : List Value) (hs : a.eval s = v) (hrow : rowIn w.heap.size (shape L) m e size v k xs)
    (C : Array Value) (t' : TypeId) (q c : Nat) (hx : a.eval x = .slice (some ⟨sz w.heap.size (shape (D ++ m :: L)), 0, none⟩) q c) (hl : C.size = q * size) (h1 : ∀ u ∈ C.toList, u.oneCell' = true)
    (h63 : k + q ≤ maxLen) (hbytes : (k + q) * bytes ≤ 140737488355328)
    (h : ∀ (v' : Value) (m' : Ext), rowIn w.heap.size (shape L) m'.e e size v' (k + q) (xs ++ C.toList) → wpList P ops Q rest (a.put o.dst v') (wd w (m'.e :: L) m'.n)) :
    wpList P ops Q (o :: rest) a (wd w (#[.cells C t'] :: (D ++ m :: L)) n) := by
  rw [wd_mall1]
  exact wp_append_row hgd s x t ho e i z size bytes ht hi hz hsize hby hzs hsz v k xs hs (rowIn_mall hrow D) C t' q c (by rw [hx, sz_mall]; rfl) hl h1 h63 hbytes h
/-- 'append(v, u...)', bytes made just now, pieces D between. -/
theorem at_appendD (D : List (Array Obj)) {ops : Array Oper} {rest : List Oper} {o : Oper} {a : Act} {Q : Exit → Act → World → Prop} {w : World} {L : List (Array Obj)} {n : Nat} {m m1 : Array Obj} {v u : Value} {l l2 : List UInt8}
    (hgd : o.guard = none) (s x : Operand) (ho : o.op = .call { callee := .builtin .append, args := #[s, x], argTypes := #[28, 28] })
    (hs : a.eval s = v) (hrow : BRow w L m v l) (hx : a.eval x = u) (hsrc : BRow w (D ++ m :: L) m1 u l2) (hlen : l.length + l2.length ≤ 1099511627776)
    (h : ∀ (v' : Value) (m' : Ext), BRow w L m'.e v' (l ++ l2) → wpList Try.prog ops Q rest (a.put o.dst v') (wd w (m'.e :: L) m'.n)) :
    wpList Try.prog ops Q (o :: rest) a (wd w (m1 :: (D ++ m :: L)) n) := by
  rw [wd_mall1]
  exact at_append hgd s x ho hs (rowIn_mall hrow D) hx (rowIn_sz (sz_mall _ _ _ _) hsrc) hlen h
end Go.Proofs.Ytejokhgabcldhaa
/- batch: Get. -/
namespace Go.Proofs.Ytejokhgabcldhaa
open Go.ChangeShapes Go.WideShapes Go.ChangeAt Go.RowKit
set_option linter.unusedVariables false
set_option linter.unusedSimpArgs false

/-- A batch and an error, handed back. -/
structure BatRet (w w' : World) (x : Ending) (g : Bat × Int) : Prop where
  out : ∃ a cap, x = .returned (.tuple #[.agg #[.int .i64 g.1.base, .int .i64 g.1.count, .int .i64 g.1.producer, .int .i64 g.1.epoch, .int .i64 g.1.seq, .slice a g.1.recs.length cap], .int .i64 g.2]) ∧ RecsAt w' a g.1.recs ∧ More w w' ∧ From w.heap.size a g.1.recs
theorem batret_no {w : World} {L : List (Array Obj)} {n : Nat} {x : Ending} {l : List UInt8} (h : ∀ b, batPut b ≠ (l, 0)) (hx : x = .returned (.tuple #[.agg #[.int .i64 0, .int .i64 0, .int .i64 0, .int .i64 0, .int .i64 0, .slice none 0 0], .int .i64 4])) : BatRet w (wd w L n) x (batGet l) := by
  rw [batGet_no h, hx]
  exact ⟨none, 0, rfl, RowAt.nil _, more_wd _ _ _, From.nil _ _⟩
/-- An own reader's block. -/
abbrev rbk (v : Value) (e : Int) : Array Obj := #[.cells #[v, .int .i64 e] 163]
/-- An own reader upon its bytes' piece, with none to three pieces above. -/
structure OwnRd (w : World) (c : Array Obj) (L : List (Array Obj)) (p : Nat) (v0 : Value) (l : List UInt8) : Prop where
  r0 : ∀ n v e, Rdr (wd w (rbk v e :: c :: L) n) p v e
  r1 : ∀ x n v e, Rdr (wd w (x :: rbk v e :: c :: L) n) p v e
  r2 : ∀ x y n v e, Rdr (wd w (x :: y :: rbk v e :: c :: L) n) p v e
  r3 : ∀ x y z n v e, Rdr (wd w (x :: y :: z :: rbk v e :: c :: L) n) p v e
  r4 : ∀ x y z t n v e, Rdr (wd w (x :: y :: z :: t :: rbk v e :: c :: L) n) p v e
  b0 : ∀ n v e v' l', (∀ W0, RB W0 v0 l → RB W0 v' l') → RB (wd w (rbk v e :: c :: L) n) v' l'
  b1 : ∀ x n v e v' l', (∀ W0, RB W0 v0 l → RB W0 v' l') → RB (wd w (x :: rbk v e :: c :: L) n) v' l'
  b2 : ∀ x y n v e v' l', (∀ W0, RB W0 v0 l → RB W0 v' l') → RB (wd w (x :: y :: rbk v e :: c :: L) n) v' l'
  b3 : ∀ x y z n v e v' l', (∀ W0, RB W0 v0 l → RB W0 v' l') → RB (wd w (x :: y :: z :: rbk v e :: c :: L) n) v' l'
  b4 : ∀ x y z t n v e v' l', (∀ W0, RB W0 v0 l → RB W0 v' l') → RB (wd w (x :: y :: z :: t :: rbk v e :: c :: L) n) v' l'
theorem flat_snoc {α : Type} (f : α → List Value) (l : List α) (x : α) : (l ++ [x]).flatMap f = l.flatMap f ++ f x := by simp
theorem rdr_push {w : World} {d : Array Obj} {L : List (Array Obj)} {n p : Nat} {v : Value} {e : Int} (h : Rdr (wd w L n) p v e) : Rdr (wd w (d :: L) n) p v e := h.more ⟨_, _, rfl⟩
theorem rb_push {w : World} {d : Array Obj} {L : List (Array Obj)} {n : Nat} {v : Value} {l : List UInt8} (h : RB (wd w L n) v l) : RB (wd w (d :: L) n) v l := h.more ⟨_, _, rfl⟩
theorem ownRd {w : World} {c : Array Obj} {L : List (Array Obj)} {p : Nat} {v0 : Value} {l : List UInt8} (hp : p = sz w.heap.size (shape (c :: L))) (h : BRow w L c v0 l) : OwnRd w c L p v0 l := by
  subst hp
  have r : ∀ n v e, Rdr (wd w (rbk v e :: c :: L) n) (sz w.heap.size (shape (c :: L))) v e := fun n v e => Rdr.here w (c :: L) n _ rfl v e
  have b : ∀ n v e v' l', (∀ W0, RB W0 v0 l → RB W0 v' l') → RB (wd w (rbk v e :: c :: L) n) v' l' := fun n v e v' l' hk => hk _ (rb_push (RB.of_row (k := n) h l rfl))
  exact ⟨r, fun _ _ _ _ => rdr_push (r _ _ _), fun _ _ _ _ _ => rdr_push (rdr_push (r _ _ _)), fun _ _ _ _ _ _ => rdr_push (rdr_push (rdr_push (r _ _ _))), fun _ _ _ _ _ _ _ => rdr_push (rdr_push (rdr_push (rdr_push (r _ _ _)))),
    b, fun _ _ _ _ _ _ hk => rb_push (b _ _ _ _ _ hk), fun _ _ _ _ _ _ _ hk => rb_push (rb_push (b _ _ _ _ _ hk)), fun _ _ _ _ _ _ _ _ hk => rb_push (rb_push (rb_push (b _ _ _ _ _ hk))), fun _ _ _ _ _ _ _ _ _ hk => rb_push (rb_push (rb_push (rb_push (b _ _ _ _ _ hk))))⟩
theorem took_own0 {w w' : World} {L : List (Array Obj)} {n p : Nat} {v : Value} {l l' : List UInt8} {e e' : Int} (hp : p = sz w.heap.size (shape L)) (h : Took (wd w (rbk v e :: L) n) w' p v l l' e') :
    ∃ v' M, (∀ W0, RB W0 v l → RB W0 v' l') ∧ w' = wd w (Ext.e M :: rbk v' e' :: L) M.n := by
  obtain ⟨v', hk, m, rfl⟩ := h.out
  subst hp
  exact ⟨v', m, hk, by rw [rset_wd w L n _ _ _ _ _ _ _ rfl rfl, wd_plus]⟩
theorem took_own1 {w w' : World} {x : Array Obj} {L : List (Array Obj)} {n p : Nat} {v : Value} {l l' : List UInt8} {e e' : Int} (hp : p = sz w.heap.size (shape L)) (h : Took (wd w (x :: rbk v e :: L) n) w' p v l l' e') :
    ∃ v' M, (∀ W0, RB W0 v l → RB W0 v' l') ∧ w' = wd w (Ext.e M :: rbk v' e' :: L) M.n := by
  obtain ⟨v', hk, m, rfl⟩ := h.out
  subst hp
  refine ⟨v', ⟨x ++ m.e, m.n⟩, hk, ?_⟩
  rw [rset_wd_past _ _ _ _ _ _ _ _ rfl (by simp [shape, inn]), rset_wd w L n _ _ _ _ _ _ _ rfl rfl, onTop_wd, wd_plus, wd_merge]
set_option maxRecDepth 100000 in
set_option maxHeartbeats 6400000 in
theorem get_bat (v : Value) (l : List UInt8) (w : World) (hv : RB w v l) (hl : l.length ≤ 1099511627776) : Calls Try.prog 141 #[v] w fun x w' => BatRet w w' x (batGet l) := by
  obtain ⟨i0, hi, hz0, hz1, hz2⟩ := info_parts info_rec
  have HV := Lib.hid hv
  have HNO : Hid ((∃ k, k < batN l ∧ (recAt k (numSt 6 l 0).1 (numSt 6 l 0).2).2.2.2 ≠ 0) → ∀ b, batPut b ≠ (l, 0)) := Lib.hid (fun ⟨k, hk, hne⟩ b hb => hne ((bat_facts hb).2.2.2.2 k hk))
  have HG : Hid (batGet l = if batPut (batDec l) = (l, 0) then (batDec l, 0) else (Bat.zero, 4)) := Lib.hid rfl
  have HNO2 : Hid (batPut (batDec l) ≠ (l, 0) → ∀ b, batPut b ≠ (l, 0)) := Lib.hid (fun h b hb => h (by rw [(bat_facts hb).2.1]; exact hb))
  have HD : Hid (batDec l = ⟨numAt 0 l 0, numAt 1 l 0, numAt 2 l 0, numAt 3 l 0, numAt 4 l 0, recsOf (batN l) (numSt 6 l 0).1 (numSt 6 l 0).2⟩) := Lib.hid rfl
  have HNN : Hid (batN l = (max 0 (min (numAt 5 l 0) 32)).toNat) := Lib.hid rfl
  clear hv
  -- the six numbers
  have hn0 := fun (v1 : Value) (p : Nat) (W : World) (hr : Rdr W p v1 0) (h : RB W v1 l) => num_any p v1 l 0 W hr h
  have e0 : numAt 0 l 0 = numV l 0 := rfl
  have e1 : numAt 1 l 0 = numV (numSt 1 l 0).1 (numSt 1 l 0).2 := rfl
  have e2 : numAt 2 l 0 = numV (numSt 2 l 0).1 (numSt 2 l 0).2 := rfl
  have e3 : numAt 3 l 0 = numV (numSt 3 l 0).1 (numSt 3 l 0).2 := rfl
  have e4 : numAt 4 l 0 = numV (numSt 4 l 0).1 (numSt 4 l 0).2 := rfl
  have e5 : numAt 5 l 0 = numV (numSt 5 l 0).1 (numSt 5 l 0).2 := rfl
  have s1 : numSt 1 l 0 = (numL l 0, numE l 0) := rfl
  have s2 : numSt 2 l 0 = (numL (numSt 1 l 0).1 (numSt 1 l 0).2, numE (numSt 1 l 0).1 (numSt 1 l 0).2) := rfl
  have s3 : numSt 3 l 0 = (numL (numSt 2 l 0).1 (numSt 2 l 0).2, numE (numSt 2 l 0).1 (numSt 2 l 0).2) := rfl
  have s4 : numSt 4 l 0 = (numL (numSt 3 l 0).1 (numSt 3 l 0).2, numE (numSt 3 l 0).1 (numSt 3 l 0).2) := rfl
  have s5 : numSt 5 l 0 = (numL (numSt 4 l 0).1 (numSt 4 l 0).2, numE (numSt 4 l 0).1 (numSt 4 l 0).2) := rfl
  have s6 : numSt 6 l 0 = (numL (numSt 5 l 0).1 (numSt 5 l 0).2, numE (numSt 5 l 0).1 (numSt 5 l 0).2) := rfl
  generalize numSt 6 l 0 = S6 at *
  generalize numSt 5 l 0 = S5 at *
  generalize numSt 4 l 0 = S4 at *
  generalize numSt 3 l 0 = S3 at *
  generalize numSt 2 l 0 = S2 at *
  generalize numSt 1 l 0 = S1 at *
  have hn1 := fun (v1 : Value) (p : Nat) (W : World) (hr : Rdr W p v1 S1.2) (h : RB W v1 S1.1) => num_any p v1 S1.1 S1.2 W hr h
  have hn2 := fun (v1 : Value) (p : Nat) (W : World) (hr : Rdr W p v1 S2.2) (h : RB W v1 S2.1) => num_any p v1 S2.1 S2.2 W hr h
  have hn3 := fun (v1 : Value) (p : Nat) (W : World) (hr : Rdr W p v1 S3.2) (h : RB W v1 S3.1) => num_any p v1 S3.1 S3.2 W hr h
  have hn4 := fun (v1 : Value) (p : Nat) (W : World) (hr : Rdr W p v1 S4.2) (h : RB W v1 S4.1) => num_any p v1 S4.1 S4.2 W hr h
  have hn5 := fun (v1 : Value) (p : Nat) (W : World) (hr : Rdr W p v1 S5.2) (h : RB W v1 S5.1) => num_any p v1 S5.1 S5.2 W hr h
  rw [← e0] at hn0
  rw [← e1] at hn1
  rw [← e2] at hn2
  rw [← e3] at hn3
  rw [← e4] at hn4
  rw [← e5] at hn5
  obtain ⟨l1, q1⟩ := S1
  obtain ⟨l2, q2⟩ := S2
  obtain ⟨l3, q3⟩ := S3
  obtain ⟨l4, q4⟩ := S4
  obtain ⟨l5, q5⟩ := S5
  obtain ⟨l6, q6⟩ := S6
  simp only [Prod.mk.injEq] at s1 s2 s3 s4 s5 s6
  rw [← s1.1, ← s1.2] at hn0
  rw [← s2.1, ← s2.2] at hn1
  rw [← s3.1, ← s3.2] at hn2
  rw [← s4.1, ← s4.2] at hn3
  rw [← s5.1, ← s5.2] at hn4
  rw [← s6.1, ← s6.2] at hn5
  clear e0 e1 e2 e3 e4 e5 s1 s2 s3 s4 s5 s6
  generalize numAt 0 l 0 = d0 at *
  generalize numAt 1 l 0 = d1 at *
  generalize numAt 2 l 0 = d2 at *
  generalize numAt 3 l 0 = d3 at *
  generalize numAt 4 l 0 = d4 at *
  generalize numAt 5 l 0 = d5 at *
  dsimp only at *
  generalize batN l = N at *
  have hput := fun (a : Option Addr) (cap : Nat) (W : World) (h : RecsAt W a (batDec l).recs) (hm : (batDec l).recs.length ≤ maxLen) => put_bat (batDec l) a cap W h hm
  generalize batDec l = D at *
  have hD := HD.out
  subst hD
  dsimp only at hput
  rw [recsOf_len] at hput
  generalize hP : batPut ⟨d0, d1, d2, d3, d4, recsOf N l6 q6⟩ = P at *
  have HPP := Lib.hid hP
  clear hP HD
  have hN32 : N ≤ 32 := by have := HNN.out; omega
  have hcs : (d5 ≤ 0 ∧ N = 0) ∨ (0 < d5 ∧ d5 ≤ 32 ∧ d5 = N) ∨ (32 < d5 ∧ N = 32) := by have := HNN.out; omega
  have HPUT := Lib.hid hput
  clear hput HNN
  have hcs' : ∃ (K : Int), K = (N : Int) ∧ ((d5 ≤ 0 ∧ K = 0) ∨ (0 < d5 ∧ d5 ≤ 32 ∧ K = d5) ∨ (32 < d5 ∧ K = 32)) := ⟨N, rfl, by omega⟩
  clear hcs
  obtain ⟨K, hK, hcs⟩ := hcs'
  obtain ⟨pl, pe⟩ := P
  have HK := Lib.hid hK
  clear hK
  rcases hcs with ⟨hc1, rfl⟩ | ⟨hc1, hc2, rfl⟩ | ⟨hc1, rfl⟩
  all_goals
    refine calls_wd ?_
    go_enter Try.func141, Try.ntmps141
    go_wp2_with (first
      | (go_at_call 61; ((with_reducible refine (new_any v l _ (HV.out.more (more_wd _ _ _)) hl).mono ?_); rintro x w1 hnr; obtain ⟨v0, m0, rfl, hr0, rfl⟩ := hnr.wd; clear hnr; have HO := Lib.hid (ownRd (p := sz w.heap.size [m0.e.size, 1]) rfl hr0)))
      | (go_at_call 63; ((with_reducible refine (hn0 v0 _ _ (HO.out.r0 _ _ _) (HO.out.b0 _ _ _ _ _ (fun _ h => h))).mono ?_); rintro x w1 ⟨rfl, ht⟩; obtain ⟨v1, m1, hb1, rfl⟩ := took_own0 (L := [_, _]) rfl ht; have HB1 := Lib.hid hb1; clear ht hb1))
      | (go_at_call 63; ((with_reducible refine (hn1 v1 _ _ (HO.out.r1 _ _ _ _) (HO.out.b1 _ _ _ _ _ _ HB1.out)).mono ?_); rintro x w1 ⟨rfl, ht⟩; obtain ⟨v2, m2, hb2, rfl⟩ := took_own1 (L := [_, _]) rfl ht; have HB2 := Lib.hid (keep_trans HB1.out hb2); clear ht hb2))
      | (go_at_call 63; ((with_reducible refine (hn2 v2 _ _ (HO.out.r1 _ _ _ _) (HO.out.b1 _ _ _ _ _ _ HB2.out)).mono ?_); rintro x w1 ⟨rfl, ht⟩; obtain ⟨v3, m3, hb3, rfl⟩ := took_own1 (L := [_, _]) rfl ht; have HB3 := Lib.hid (keep_trans HB2.out hb3); clear ht hb3))
      | (go_at_call 63; ((with_reducible refine (hn3 v3 _ _ (HO.out.r1 _ _ _ _) (HO.out.b1 _ _ _ _ _ _ HB3.out)).mono ?_); rintro x w1 ⟨rfl, ht⟩; obtain ⟨v4, m4, hb4, rfl⟩ := took_own1 (L := [_, _]) rfl ht; have HB4 := Lib.hid (keep_trans HB3.out hb4); clear ht hb4))
      | (go_at_call 63; ((with_reducible refine (hn4 v4 _ _ (HO.out.r1 _ _ _ _) (HO.out.b1 _ _ _ _ _ _ HB4.out)).mono ?_); rintro x w1 ⟨rfl, ht⟩; obtain ⟨v5, m5, hb5, rfl⟩ := took_own1 (L := [_, _]) rfl ht; have HB5 := Lib.hid (keep_trans HB4.out hb5); clear ht hb5))
      | (go_at_call 63; ((with_reducible refine (hn5 v5 _ _ (HO.out.r2 _ _ _ _ _) (HO.out.b2 _ _ _ _ _ _ _ HB5.out)).mono ?_); rintro x w1 ⟨rfl, v6, hb6, m6, rfl⟩; have HB6 := Lib.hid (keep_trans HB5.out hb6); clear hb6)))
    go_loopw [27] (fun i wr => ∃ (k : Nat) (m : Ext) (vk : Value) (a : Option Addr) (cap : Nat) (sl : List UInt8) (se : Int), k ≤ N ∧ i = .int .i64 k ∧ Hid (recSt k l6 q6 = (sl, se)) ∧ Hid (∀ W0, RB W0 v0 l → RB W0 vk sl) ∧ Hid (rowIn w.heap.size [1, m5.e.size, 1, m0.e.size, 1] m.e 99 6 (.slice a k cap) k ((recsOf k l6 q6).flatMap recCells)) ∧
      wr = wd w [m.e, #[.cells #[.int .i64 d0, .int .i64 d1, .int .i64 d2, .int .i64 d3, .int .i64 d4, .slice a k cap] 25], m5.e, rbk vk se, m0.e, #[.cells #[.int .i64 0, .int .i64 0, .int .i64 0, .int .i64 0, .int .i64 0, .slice none 0 0] 25]] m.n) (fun i _ => N - (intOf i).toNat)
    case atStart => exact ⟨0, m6, v6, none, 0, l6, q6, Nat.zero_le _, rfl, Lib.hid rfl, HB6, Lib.hid (rowIn_nil _ _ _ _ _), rfl⟩
    case round =>
      obtain ⟨k, m, vk, a, cap, sl, se, hk, rfl, HS, HKP, HROW, rfl⟩ := hrel
      have HRA : Hid (∀ n, RecsAt (wd w [m.e, #[.cells #[.int .i64 d0, .int .i64 d1, .int .i64 d2, .int .i64 d3, .int .i64 d4, .slice a k cap] 25], m5.e, rbk vk se, m0.e, #[.cells #[.int .i64 0, .int .i64 0, .int .i64 0, .int .i64 0, .int .i64 0, .slice none 0 0] 25]] n) a (recsOf k l6 q6)) := Lib.hid (fun n => by
        have h := rdrow_of_row (L := [#[.cells #[.int .i64 d0, .int .i64 d1, .int .i64 d2, .int .i64 d3, .int .i64 d4, .slice a k cap] 25], m5.e, rbk vk se, m0.e, #[.cells #[.int .i64 0, .int .i64 0, .int .i64 0, .int .i64 0, .int .i64 0, .slice none 0 0] 25]]) (k := n) HROW.out
        have e := recsOf_len k l6 q6
        refine RowAt.of_rd (cap := cap) ?_
        rw [e]; exact h)
      by_cases hlt : k < N
      · (try (exfalso; have := HK.out; omega))
        all_goals
          obtain ⟨g, hg⟩ : ∃ g, recGet sl se = g := ⟨_, rfl⟩
          have HAT : Hid (recAt k l6 q6 = g) := Lib.hid (by unfold recAt; rw [HS.out]; exact hg)
          have hrec := fun (p : Nat) (W : World) (hr : Rdr W p vk se) (h : RB W vk sl) => hg ▸ recget_any p vk sl se W hr h
          clear hg
          obtain ⟨gl, ge, gr, ger⟩ := g
          obtain ⟨rd, rt, rky, rkey, rdd, rval⟩ := gr
          have hltK := HK.out
          by_cases hger : ger = 0
          · subst hger
            have hlt2 := Int.lt_of_lt_of_le (show (k : Int) < (N : Int) by omega) (Int.le_of_eq hltK.symm)
            clear hltK
            go_wp2_with (first
              | (go_at_call 162; ((with_reducible refine (hrec _ _ (HO.out.r3 _ _ _ _ _ _) (HO.out.b3 _ _ _ _ _ _ _ _ HKP.out)).mono ?_); rintro x w1 ⟨rfl, vk2, hbk, mk, rfl⟩; have HBX := Lib.hid (keep_trans HKP.out hbk); clear hbk))
              | (at_builtin; refine wp_append_rowD [#[.cells _ _], mk.e] rfl _ _ _ rfl 99 i0 _ 6 64 Try.underlying23 hi hz0 hz1 hz2 rfl (by decide) (.slice a k cap) k _ rfl HROW.out _ _ 1 1 rfl rfl (by simp [Value.oneCell']) (by unfold maxLen; omega) (by omega) ?_; intro v9 m9 hr9; obtain ⟨a9, c9, rfl⟩ := rowIn_slice hr9))
            go_roundw
            case rel => exact ⟨k + 1, m9, vk2, a9, c9, gl, ge, by omega, by go_num, Lib.hid (by unfold recSt; rw [HS.out]; have h := HAT.out; unfold recAt at h; rw [HS.out] at h; rw [h]), HBX, Lib.hid (by rw [recsOf_succ, HAT.out, flat_snoc]; exact hr9), rfl⟩
            case measure => simp [intOf]; omega
          · have hne : (ger == 0) = false := by rw [beq_eq_false_iff_ne]; exact hger
            have HNB := Lib.hid (HNO.out ⟨k, hlt, by rw [HAT.out]; exact hger⟩)
            have hlt2 := Int.lt_of_lt_of_le (show (k : Int) < (N : Int) by omega) (Int.le_of_eq hltK.symm)
            clear hltK
            go_wp2_with (first
              | (go_at_call 162; ((with_reducible refine (hrec _ _ (HO.out.r3 _ _ _ _ _ _) (HO.out.b3 _ _ _ _ _ _ _ _ HKP.out)).mono ?_); rintro x w1 ⟨rfl, vk2, hbk, mk, rfl⟩; clear hbk)))
            exact bodyPost_ret (v := .tuple #[.agg #[.int .i64 0, .int .i64 0, .int .i64 0, .int .i64 0, .int .i64 0, .slice none 0 0], .int .i64 4]) (by simp [results, Try.results141, go_sem]) rfl (batret_no HNB.out rfl)
      · obtain rfl : k = N := by omega
        have hltK := HK.out
        have hge2 := Int.le_of_eq hltK
        have hm9 : k ≤ maxLen := by unfold maxLen; omega
        have HM := Lib.hid hm9
        clear hltK hm9
        by_cases hpe : pe = 0
        · by_cases hpl : pl = l
          · have HX : Hid (batGet l = (⟨d0, d1, d2, d3, d4, recsOf k l6 q6⟩, 0)) := Lib.hid (by rw [HG.out, if_pos (by rw [hpl, hpe])])
            subst hpe
            have HPL := Lib.hid hpl
            have hdec : decide (pl = l) = true := decide_eq_true hpl
            clear hpl
            go_wp2_with (first
              | (go_at_call 96; ((with_reducible refine (HPUT.out a cap _ (HRA.out _) HM.out).mono ?_); rintro e w2 ⟨u9, rfl, hm9⟩; obtain ⟨p9, rfl, hs9⟩ := hm9.wd; clear hm9; have HU := Lib.hid (RB.of_row (L := [m.e, #[.cells #[.int .i64 d0, .int .i64 d1, .int .i64 d2, .int .i64 d3, .int .i64 d4, .slice a k cap] 25], m5.e, rbk vk se, m0.e, #[.cells #[.int .i64 0, .int .i64 0, .int .i64 0, .int .i64 0, .int .i64 0, .slice none 0 0] 25]]) (k := p9.n) hs9 _ rfl); clear hs9))
              | (go_at_call 163; ((with_reducible refine (eqbytes_any u9 v pl l _ HU.out (HV.out.more (more_wd _ _ _))).mono ?_); rintro e w1 ⟨rfl, x1, n1, rfl⟩)))
            have HRF := Lib.hid (rdrow_of_row (L := [#[.cells #[.int .i64 d0, .int .i64 d1, .int .i64 d2, .int .i64 d3, .int .i64 d4, .slice a k cap] 25], m5.e, rbk vk se, m0.e, #[.cells #[.int .i64 d0, .int .i64 d1, .int .i64 d2, .int .i64 d3, .int .i64 d4, .slice a k cap] 25]]) (k := 0) HROW.out)
            refine bodyPost_ret (v := .tuple #[.agg #[.int .i64 d0, .int .i64 d1, .int .i64 d2, .int .i64 d3, .int .i64 d4, .slice a k cap], .int .i64 0]) (by simp [results, Try.results141, go_sem]) rfl ⟨a, cap, by rw [HX.out, recsOf_len], ?_, more_wd _ _ _, by rw [HX.out]; exact from_row HROW.out (recsOf_len _ _ _)⟩
            rw [HX.out]
            refine (RowAt.of_rd (cap := cap) ?_ : RecsAt (wd w [m.e, #[.cells #[.int .i64 d0, .int .i64 d1, .int .i64 d2, .int .i64 d3, .int .i64 d4, .slice a k cap] 25], m5.e, rbk vk se, m0.e, #[.cells #[.int .i64 d0, .int .i64 d1, .int .i64 d2, .int .i64 d3, .int .i64 d4, .slice a k cap] 25]] 0) a (recsOf k l6 q6)).more (more_cons (more_cons (more_same _ _ _ _)))
            rw [recsOf_len]; exact HRF.out
          · have HNB := Lib.hid (HNO2.out (by intro h; exact hpl (congrArg Prod.fst h)))
            subst hpe
            have hdec : decide (pl = l) = false := decide_eq_false hpl
            clear hpl
            go_wp2_with (first
              | (go_at_call 96; ((with_reducible refine (HPUT.out a cap _ (HRA.out _) HM.out).mono ?_); rintro e w2 ⟨u9, rfl, hm9⟩; obtain ⟨p9, rfl, hs9⟩ := hm9.wd; clear hm9; have HU := Lib.hid (RB.of_row (L := [m.e, #[.cells #[.int .i64 d0, .int .i64 d1, .int .i64 d2, .int .i64 d3, .int .i64 d4, .slice a k cap] 25], m5.e, rbk vk se, m0.e, #[.cells #[.int .i64 0, .int .i64 0, .int .i64 0, .int .i64 0, .int .i64 0, .slice none 0 0] 25]]) (k := p9.n) hs9 _ rfl); clear hs9))
              | (go_at_call 163; ((with_reducible refine (eqbytes_any u9 v pl l _ HU.out (HV.out.more (more_wd _ _ _))).mono ?_); rintro e w1 ⟨rfl, x1, n1, rfl⟩)))
            exact bodyPost_ret (v := .tuple #[.agg #[.int .i64 0, .int .i64 0, .int .i64 0, .int .i64 0, .int .i64 0, .slice none 0 0], .int .i64 4]) (by simp [results, Try.results141, go_sem]) rfl (batret_no HNB.out rfl)
        · have HNB := Lib.hid (HNO2.out (by intro h; exact hpe (congrArg Prod.snd h)))
          have hne : (pe == 0) = false := by rw [beq_eq_false_iff_ne]; exact hpe
          go_wp2_with (first
            | (go_at_call 96; ((with_reducible refine (HPUT.out a cap _ (HRA.out _) HM.out).mono ?_); rintro e w2 ⟨u9, rfl, hm9⟩; obtain ⟨p9, rfl, hs9⟩ := hm9.wd; clear hm9; have HU := Lib.hid (RB.of_row (L := [m.e, #[.cells #[.int .i64 d0, .int .i64 d1, .int .i64 d2, .int .i64 d3, .int .i64 d4, .slice a k cap] 25], m5.e, rbk vk se, m0.e, #[.cells #[.int .i64 0, .int .i64 0, .int .i64 0, .int .i64 0, .int .i64 0, .slice none 0 0] 25]]) (k := p9.n) hs9 _ rfl); clear hs9))
            | (go_at_call 163; ((with_reducible refine (eqbytes_any u9 v pl l _ HU.out (HV.out.more (more_wd _ _ _))).mono ?_); rintro e w1 ⟨rfl, x1, n1, rfl⟩)))
          all_goals exact bodyPost_ret (v := .tuple #[.agg #[.int .i64 0, .int .i64 0, .int .i64 0, .int .i64 0, .int .i64 0, .slice none 0 0], .int .i64 4]) (by simp [results, Try.results141, go_sem]) rfl (batret_no HNB.out rfl)
end Go.Proofs.Ytejokhgabcldhaa
