/- Routes: Split. -/
import Derived.Test.YtmbmibinnjfbdaaGreatRA
import Derived.Test.YtmbmibinnjfbdaaGreatMC
import Derived.Test.YtmbmibinnjfbdaaGreatMF
import Derived.Maps.AppendAt
namespace Go.Proofs.YtmbmibinnjfbdaaGreat
open Go.ChangeShapes Go.WideShapes Go.ChangeAt Go.RowKit
set_option linter.unusedVariables false
set_option linter.unusedSimpArgs false

theorem made_nils (n : Nat) : madeCells #[Value.slice none 0 0] (n * 1) = (List.replicate n (Value.slice none 0 0)).toArray := by
  apply Array.toList_inj.1
  apply List.ext_getElem?
  intro i
  simp [madeCells, List.getElem?_replicate]
  by_cases h : i < n
  · simp [h, Nat.mod_one]
  · simp [h]
theorem info_recsl : (Tryz.prog.info? 22).map (fun i => (i.zero, i.size, i.bytes)) = some (some (.slice none 0 0), 1, 24) := by kernel_rfl
theorem rec_info : ∃ i : TypeInfo, Tryz.prog.info? 22 = some i ∧ i.size = 1 ∧ i.bytes = 24 ∧ i.zero = some (.slice none 0 0) := by
  obtain ⟨i0, hi, hz0, hz1, hz2⟩ := info_parts info_recsl
  exact ⟨i0, hi, hz1, hz2, hz0⟩
/-- 'make([][]api.Record, n)'. -/
theorem at_make {ops : Array Oper} {rest : List Oper} {o : Oper} {a : Act} {Q : Exit → Act → World → Prop} {w : World} {L : List (Array Obj)} {n : Nat} (hgd : o.guard = none) (x : Operand) (P : Nat)
    (ho : o.op = .makeSlice 26 x x) (hx : a.eval x = .int .i64 (P : Int)) (hP : P ≤ 8)
    (h : wpList Tryz.prog ops Q rest (a.put o.dst (.slice (some ⟨sz w.heap.size (shape L), 0, none⟩) P P)) (wd w (#[.cells (List.replicate P (Value.slice none 0 0)).toArray 22] :: L) n)) :
    wpList Tryz.prog ops Q (o :: rest) a (wd w L n) := by
  obtain ⟨i, h1, h2, h3, h4⟩ := rec_info
  have hrun := run_makeSlice (P := Tryz.prog) (wd w L n) 26 22 i (.slice none 0 0) Tryz.underlying26 h1 h4 .i64 .i64 (P : Int) (P : Int) (by omega) (Int.le_refl _) (by rw [h2]; simp; omega) (by rw [h3]; omega) (by omega)
  refine wpList_plain hgd fun K hK' => ?_
  have e1 : (wd w L n).heap.size = sz w.heap.size (shape L) := wd_size w L n
  rw [h2, Int.toNat_natCast, e1] at hrun
  have e2 : madeCells (Value.slice none 0 0).cells (P * 1) = (List.replicate P (Value.slice none 0 0)).toArray := made_nils P
  rw [e2] at hrun
  unfold Oper.wp
  simp [execOp, ho, hx, hrun, Result.andThen]
  exact hK' _ _ h
/-- Rows of records that are the call's own, in one piece, each in a block of its own. -/
structure Rows (B : Nat) (S : List Nat) (m : Array Obj) (VS : List Value) (xs : List (List Rec)) : Prop where
  len : VS.length = xs.length
  row : ∀ (p : Nat) v x, VS[p]? = some v → xs[p]? = some x → rowIn B S m 30 6 v x.length (x.flatMap recCells)
  apart : ∀ (p q : Nat) u v b, p ≠ q → VS[p]? = some u → VS[q]? = some v → u.ownBlock = some b → v.ownBlock ≠ some b
theorem Rows.start (B : Nat) (S : List Nat) (m : Array Obj) (n : Nat) : Rows B S m (List.replicate n (Value.slice Option.none 0 0)) (List.replicate n []) := by
  refine ⟨by simp, fun p v x hv hx => ?_, fun p q u v b _ hu _ hb => ?_⟩
  · rw [List.getElem?_replicate] at hv hx
    split at hv
    · next h =>
      rw [if_pos h] at hx
      obtain rfl := Option.some.inj hv
      obtain rfl := Option.some.inj hx
      exact rowIn_nil B S m _ _
    · cases hv
  · rw [List.getElem?_replicate] at hu
    split at hu
    · cases hu; cases hb
    · cases hu
theorem Rows.more {B : Nat} {S : List Nat} {m : Array Obj} {VS : List Value} {xs : List (List Rec)} (h : Rows B S m VS xs) (e : Array Obj) : Rows B S (m ++ e) VS xs :=
  ⟨h.len, fun p v x hv hx => rowIn_more (h.row p v x hv hx) e, h.apart⟩
theorem info_rec6 : (Tryz.prog.info? 30).map (fun i => (i.zero, i.size, i.bytes)) = some (some (.agg #[.int .i64 0, .int .i64 0, .bool false, .string ⟨#[]⟩, .bool false, .string ⟨#[]⟩]), 6, 64) := by kernel_rfl
theorem rec6_info : ∃ i : TypeInfo, ∃ z : Value, Tryz.prog.info? 30 = some i ∧ i.zero = some z ∧ i.size = 6 ∧ i.bytes = 64 ∧ z.cells.size = 6 := by
  obtain ⟨i0, hi, hz0, hz1, hz2⟩ := info_parts info_rec6
  exact ⟨i0, _, hi, hz0, hz1, hz2, rfl⟩
/-- The same in a world: rows of the call's own blocks from base on. -/
structure RowsW (W : World) (base : Nat) (VS : List Value) (xs : List (List Rec)) : Prop where
  len : VS.length = xs.length
  row : ∀ (p : Nat) v x, VS[p]? = some v → xs[p]? = some x → W.ownsRow base 30 6 v x.length (x.flatMap recCells)
  apart : ∀ (p q : Nat) u v b, p ≠ q → VS[p]? = some u → VS[q]? = some v → u.ownBlock = some b → v.ownBlock ≠ some b
theorem Rows.toW {w : World} {L : List (Array Obj)} {m : Array Obj} {VS : List Value} {xs : List (List Rec)} (h : Rows w.heap.size (shape L) m VS xs) (n : Nat) : RowsW (wd w (m :: L) n) (sz w.heap.size (shape L)) VS xs :=
  ⟨h.len, fun p v x hv hx => owns_of_row (h.row p v x hv hx), h.apart⟩
theorem RowsW.toRows {w : World} {L : List (Array Obj)} {m : Array Obj} {n : Nat} {VS : List Value} {xs : List (List Rec)} (h : RowsW (wd w (m :: L) n) (sz w.heap.size (shape L)) VS xs) : Rows w.heap.size (shape L) m VS xs :=
  ⟨h.len, fun p v x hv hx => row_of_owns (h.row p v x hv hx), h.apart⟩
theorem RowsW.kept {W W' : World} {base : Nat} {VS : List Value} {xs : List (List Rec)} (h : RowsW W base VS xs) (hg : W.grownBy W' Option.none) : RowsW W' base VS xs :=
  ⟨h.len, fun p v x hv hx => (h.row p v x hv hx).kept hg (by cases v.ownBlock <;> simp), h.apart⟩
/-- One record more in one of the rows, in any world. -/
theorem at_append_rowsW {ops : Array Oper} {rest : List Oper} {o : Oper} {a : Act} {Q : Exit → Act → World → Prop} {W : World} {base : Nat} {VS : List Value} {xs : List (List Rec)} (hgd : o.guard = Option.none) (s x : Operand)
    (ho : o.op = .call { callee := .builtin .append, args := #[s, x], argTypes := #[22, 22] })
    (hR : RowsW W base VS xs) (hbase : base ≤ W.heap.size) (p : Nat) (v : Value) (y : List Rec) (hv : VS[p]? = some v) (hy : xs[p]? = some y) (hs : a.eval s = v) (r : Rec) (ad : Addr) (c : Nat)
    (hx : a.eval x = .slice (some ad) 1 c) (hnews : ∀ j u, (recCells r)[j]? = some u → W.cell? (ad.add j) = some u) (hlen : y.length ≤ 1000000)
    (h : ∀ (v' : Value) (W' : World), RowsW W' base (VS.set p v') (xs.set p (y ++ [r])) → W.grownBy W' v.ownBlock → (∀ k, v.ownBlock = some k → base ≤ k) → wpList Tryz.prog ops Q rest (a.put o.dst v') W') :
    wpList Tryz.prog ops Q (o :: rest) a W := by
  obtain ⟨i, z, h1, h2, h3, h4, h5⟩ := rec6_info
  have hrow := hR.row p v y hv hy
  refine wpList_append_own_at _ hgd s x 22 ho base 30 i z 6 64 Tryz.underlying22 h1 h2 h3 h4 h5 (by decide) v y.length (y.flatMap recCells) hs hrow ad 1 c (recCells r) hx rfl hnews (by intro u hu; simp [recCells] at hu; rcases hu with rfl | rfl | rfl | rfl | rfl | rfl <;> rfl) (by simp only [maxLen]; omega) (by omega) hbase ?_
  intro v' W' hown' hg _ hat
  have hother : ∀ (q : Nat) u z, q ≠ p → VS[q]? = some u → xs[q]? = some z → W'.ownsRow base 30 6 u z.length (z.flatMap recCells) ∧ ∀ b, u.ownBlock = some b → v'.ownBlock ≠ some b := by
    intro q u z hne hu hz
    have ho := hR.row q u z hu hz
    refine ⟨ho.kept hg ?_, fun b hb => ?_⟩
    · cases hb : u.ownBlock with
      | none => exact Or.inl rfl
      | some b => exact .inr fun e => hR.apart q p u v b hne hu hv hb e.symm
    · rcases hat with hat | hat
      · rw [hat]; exact hR.apart q p u v b hne hu hv hb
      · rw [hat]
        intro e
        have := (ho.lt b hb).2
        simp only [Option.some.injEq] at e
        omega
  refine h v' W' ⟨by simp [hR.len], fun q u z hu hz => ?_, fun q q' u u' b hne hu hu' hb => ?_⟩ hg fun k hk => (hrow.lt k hk).1
  · rw [List.getElem?_set] at hu hz
    by_cases hq : p = q
    · subst hq
      have hlt : p < VS.length := (List.getElem?_eq_some_iff.1 hv).1
      have hlt2 : p < xs.length := (List.getElem?_eq_some_iff.1 hy).1
      rw [if_pos rfl, if_pos hlt] at hu
      rw [if_pos rfl, if_pos hlt2] at hz
      cases hu; cases hz
      simpa using hown'
    · rw [if_neg hq] at hu hz
      exact (hother q u z (fun e => hq e.symm) hu hz).1
  · have hlt : p < VS.length := (List.getElem?_eq_some_iff.1 hv).1
    rw [List.getElem?_set] at hu hu'
    by_cases hq : p = q
    · subst hq
      rw [if_pos rfl, if_pos hlt] at hu
      rw [if_neg hne] at hu'
      cases hu
      obtain ⟨z, hz⟩ : ∃ z, xs[q']? = some z := ⟨_, List.getElem?_eq_getElem (by rw [← hR.len]; exact (List.getElem?_eq_some_iff.1 hu').1)⟩
      intro e
      exact (hother q' u' z (fun e => hne e.symm) hu' hz).2 b e hb
    · rw [if_neg hq] at hu
      by_cases hq' : p = q'
      · subst hq'
        rw [if_pos rfl, if_pos hlt] at hu'
        cases hu'
        obtain ⟨z, hz⟩ : ∃ z, xs[q]? = some z := ⟨_, List.getElem?_eq_getElem (by rw [← hR.len]; exact (List.getElem?_eq_some_iff.1 hu).1)⟩
        exact (hother q u z hne hu hz).2 b hb
      · rw [if_neg hq'] at hu'
        exact hR.apart q q' u u' b hne hu hu' hb
theorem rows_push {w : World} {M : List (Array Obj)} {n n' : Nat} {base : Nat} {VS : List Value} {xs : List (List Rec)} (h : RowsW (wd w M n) base VS xs) (e : Array Obj) : RowsW (wd w (e :: M) n') base VS xs := by
  refine h.kept ⟨rfl, rfl, rfl, ?_, fun k hk _ => ?_⟩
  · rw [wd_size, wd_size, shape_cons]; simp only [sz]; omega
  · show (hp w.heap M ++ e)[k]? = (hp w.heap M)[k]?
    rw [Array.getElem?_append, if_pos (by rw [wd_size] at hk; rw [hp_size]; exact hk)]
/-- One record more in one of the rows that lie beneath a block which stays where it is. -/
theorem at_append_in {ops : Array Oper} {rest : List Oper} {o : Oper} {a : Act} {Q : Exit → Act → World → Prop} {w : World} {L : List (Array Obj)} {n : Nat} {e Y : Array Obj} {I : Obj} {VS : List Value} {xs : List (List Rec)} (hgd : o.guard = Option.none) (s x : Operand)
    (ho : o.op = .call { callee := .builtin .append, args := #[s, x], argTypes := #[22, 22] })
    (hR : Rows w.heap.size (shape L) Y VS xs) (p : Nat) (v : Value) (y : List Rec) (hv : VS[p]? = some v) (hy : xs[p]? = some y) (hs : a.eval s = v) (r : Rec) (t' : TypeId) (c : Nat)
    (hx : a.eval x = .slice (some ⟨sz w.heap.size (e.size :: 1 :: Y.size :: shape L), 0, Option.none⟩) 1 c) (hlen : y.length ≤ 1000000)
    (h : ∀ (v' : Value) (e' : Array Obj) (Y' : { Z : Array Obj // Z.size = Y.size }) (n' : Nat), Rows w.heap.size (shape L) (Y'.1 ++ (#[I] ++ e')) (VS.set p v') (xs.set p (y ++ [r])) → wpList Tryz.prog ops Q rest (a.put o.dst v') (wd w (e' :: #[I] :: Y'.1 :: L) n')) :
    wpList Tryz.prog ops Q (o :: rest) a (wd w (#[.cells (recCells r).toArray t'] :: e :: #[I] :: Y :: L) n) := by
  have hW : RowsW (wd w (#[.cells (recCells r).toArray t'] :: e :: #[I] :: Y :: L) n) (sz w.heap.size (shape L)) VS xs := rows_push (n := n) (rows_push (n := n) (rows_push (n := n) (hR.toW n) _) _) _
  refine at_append_rowsW hgd s x ho hW (by rw [wd_size, shape_cons, shape_cons, shape_cons, shape_cons]; simp only [sz]; omega) p v y hv hy hs r _ c hx (fun j u hu => ?_) hlen ?_
  · have e1 : ((⟨sz w.heap.size (e.size :: 1 :: Y.size :: shape L), 0, Option.none⟩ : Addr).add j) = ⟨sz w.heap.size (e.size :: 1 :: Y.size :: shape L), j, Option.none⟩ := by
      unfold Addr.add; split <;> simp_all
    rw [e1, wd_cell w (e :: #[I] :: Y :: L) n w.heap.size j (e.size :: 1 :: Y.size :: shape L) (recCells r).toArray t' (0, 0) rfl rfl]
    simpa using hu
  · intro v' W' hR' hg hlow
    rw [wd_merge] at hg
    obtain ⟨e', Y', n', hYs, rfl⟩ := k_grown_iter hg (fun k hk => ⟨hlow k hk, by
      have hrow := hR.row p v y hv hy
      rcases hrow.2 with ⟨rfl, _⟩ | ⟨j, cap, cur, rfl, hj, _⟩
      · simp [Value.ownBlock] at hk
      · simp only [Value.ownBlock, Option.some.injEq] at hk
        rw [shape_cons]; simp only [sz]; unfold at' at hk; omega⟩)
    refine h v' e' ⟨Y', hYs⟩ n' ?_
    have hm : wd w (e' :: #[I] :: Y' :: L) n' = wd w ((Y' ++ (#[I] ++ e')) :: L) n' := wd_merge3 w Y' #[I] e' L n'
    rw [hm] at hR'
    exact hR'.toRows
/-- The same, the pieces beneath told by their sizes. -/
theorem at_append_on {ops : Array Oper} {rest : List Oper} {o : Oper} {a : Act} {Q : Exit → Act → World → Prop} {w : World} {L : List (Array Obj)} {n : Nat} {e Y : Array Obj} {I : Obj} {VS : List Value} {xs : List (List Rec)} (S : List Nat) (hS : shape L = S) (hgd : o.guard = Option.none) (s x : Operand)
    (ho : o.op = .call { callee := .builtin .append, args := #[s, x], argTypes := #[22, 22] })
    (hR : Rows w.heap.size S Y VS xs) (p : Nat) (v : Value) (y : List Rec) (hv : VS[p]? = some v) (hy : xs[p]? = some y) (hs : a.eval s = v) (r : Rec) (t' : TypeId) (c : Nat) (es ys : Nat) (hes : e.size = es) (hys : Y.size = ys)
    (hx : a.eval x = .slice (some ⟨sz w.heap.size (es :: 1 :: ys :: S), 0, Option.none⟩) 1 c) (hlen : y.length ≤ 1000000) (C : Array Value) (hC : (recCells r).toArray = C)
    (h : ∀ (v' : Value) (e' : Array Obj) (Y' : { Z : Array Obj // Z.size = Y.size }) (n' : Nat), Rows w.heap.size S (Y'.1 ++ (#[I] ++ e')) (VS.set p v') (xs.set p (y ++ [r])) → wpList Tryz.prog ops Q rest (a.put o.dst v') (wd w (e' :: #[I] :: Y'.1 :: L) n')) :
    wpList Tryz.prog ops Q (o :: rest) a (wd w (#[.cells C t'] :: e :: #[I] :: Y :: L) n) := by
  subst hS hes hys hC
  exact at_append_in hgd s x ho hR p v y hv hy hs r t' c hx hlen h
/-! ### what Split does, plainly -/
/-- Where a record goes, and the turn behind it. -/
def goF (P : Int) (t : Int) (r : Rec) : Int × Int := if r.keyed then (ofF r.key P, t) else (t, (t + 1) % P)
/-- The turn, and the parts' lists, behind records. -/
def splitF (P : Int) : List Rec → Int × List (List Rec) → Int × List (List Rec)
  | [], s => s
  | r :: l, s => splitF P l ((goF P s.1 r).2, s.2.modify (goF P s.1 r).1.toNat fun x => x ++ [r])
theorem splitF_snoc (P : Int) (r : Rec) : ∀ (l : List Rec) (s : Int × List (List Rec)), splitF P (l ++ [r]) s = ((goF P (splitF P l s).1 r).2, (splitF P l s).2.modify (goF P (splitF P l s).1 r).1.toNat fun x => x ++ [r])
  | [], s => rfl
  | x :: l, s => splitF_snoc P r l _
theorem splitF_len (P : Int) : ∀ (l : List Rec) (s : Int × List (List Rec)), (splitF P l s).2.length = s.2.length
  | [], s => rfl
  | x :: l, s => by show (splitF P l _).2.length = _; rw [splitF_len P l]; simp
theorem goF_in (P t : Int) (r : Rec) (hP : 1 ≤ P) (hP8 : P ≤ 8) (h0 : 0 ≤ t) (h1 : t < P) : 0 ≤ (goF P t r).1 ∧ (goF P t r).1 < P ∧ 0 ≤ (goF P t r).2 ∧ (goF P t r).2 < P := by
  unfold goF
  have hm : manyF P = P := by unfold manyF; omega
  have := ofF_in r.key P
  rw [hm] at this
  split
  · exact ⟨this.1, this.2, h0, h1⟩
  · exact ⟨h0, h1, Int.emod_nonneg _ (by omega), Int.emod_lt_of_pos _ (by omega)⟩
theorem splitF_turn (P : Int) (hP : 1 ≤ P) (hP8 : P ≤ 8) : ∀ (l : List Rec) (s : Int × List (List Rec)), 0 ≤ s.1 ∧ s.1 < P → 0 ≤ (splitF P l s).1 ∧ (splitF P l s).1 < P
  | [], s, h => h
  | x :: l, s, h => by
    obtain ⟨_, _, h3, h4⟩ := goF_in P s.1 x hP hP8 h.1 h.2
    exact splitF_turn P hP hP8 l _ ⟨h3, h4⟩
theorem splitF_sub (P : Int) (N : Nat) : ∀ (l : List Rec) (s : Int × List (List Rec)), (∀ x ∈ s.2, x.length ≤ N) → ∀ x ∈ (splitF P l s).2, x.length ≤ N + l.length
  | [], s, h, x, hx => by have := h x hx; simpa using this
  | r :: l, s, h, x, hx => by
    have := splitF_sub P (N + 1) l ((goF P s.1 r).2, s.2.modify (goF P s.1 r).1.toNat fun x => x ++ [r]) (fun y hy => by
      obtain ⟨j, hj, rfl⟩ := List.getElem_of_mem hy
      rw [List.getElem_modify]
      have hb : j < s.2.length := by simpa using hj
      have := h s.2[j] (List.getElem_mem hb)
      split <;> simp <;> omega) x hx
    simp only [List.length_cons]; omega
theorem modify_set {α : Type} (l : List α) (p : Nat) (y : α) (f : α → α) (h : l[p]? = some y) : l.modify p f = l.set p (f y) := by
  apply List.ext_getElem?
  intro i
  rw [List.getElem?_modify, List.getElem?_set]
  by_cases hi : p = i
  · subst hi; rw [if_pos rfl, if_pos (List.getElem?_eq_some_iff.1 h).1, h]; simp
  · rw [if_neg hi]; simp [hi]
end Go.Proofs.YtmbmibinnjfbdaaGreat
