/- Data that came in or was made, generic: readable rows, fresh results, appends of whole slices. -/
import Derived.Test.YtepdkcikkemieaaGreatLib
import Derived.Test.YtepdkcikkemieaaGreatRow
import Derived.Test.YtepdkcikkemieaaGreatOpen
import Derived.Lib.ConvBytes
import Derived.Lib.UnsafeStr
import Derived.Lib.AppendStr
import Derived.Laws.IdiomStrings
import Derived.Laws.OwnMore
namespace Go.Proofs.YtepdkcikkemieaaGreat
open Go.ChangeShapes Go.WideShapes Go.ChangeAt Go.RowKit
set_option linter.unusedVariables false
set_option linter.unusedSimpArgs false

def RdRow (w : World) (size : Nat) (v : Value) (n : Nat) (xs : List Value) : Prop :=
  xs.length = n * size ∧ ((n = 0 ∧ ∃ a cap, v = .slice a 0 cap) ∨ ∃ b off cap, v = .slice (some ⟨b, off, none⟩) n cap ∧ b < w.heap.size ∧ ∀ i, i < n * size → w.cell? ⟨b, off + i, none⟩ = xs[i]?)
theorem RdRow.more {w w' : World} {size : Nat} {v : Value} {n : Nat} {xs : List Value} (h : RdRow w size v n xs) (hm : More w w') : RdRow w' size v n xs := by
  obtain ⟨h1, h2⟩ := h
  refine ⟨h1, ?_⟩
  rcases h2 with h2 | ⟨b, off, cap, hv, hb, hc⟩
  · exact .inl h2
  · have bel := hm.below
    exact .inr ⟨b, off, cap, hv, Nat.lt_of_lt_of_le hb bel.size, fun i hi => by rw [bel.cell hb]; exact hc i hi⟩
theorem rdrow_of_row {w : World} {L : List (Array Obj)} {k : Nat} {e : Array Obj} {E : TypeId} {size : Nat} {v : Value} {n : Nat} {xs : List Value} (h : rowIn w.heap.size (shape L) e E size v n xs) : RdRow (wd w (e :: L) k) size v n xs := by
  have hl := h.1
  rcases rowIn_look h with ⟨rfl, rfl, rfl⟩ | ⟨j, cap, rfl, hn, hm, hj, hc⟩
  · exact ⟨by simp, .inl ⟨rfl, none, 0, rfl⟩⟩
  · refine ⟨hl, .inr ⟨_, 0, cap, rfl, ?_, fun i hi => ?_⟩⟩
    · rw [wd_size, shape_cons]; simp only [at', sz]; omega
    · rw [Nat.zero_add, wd_cell_in w L k _ j i _ e rfl rfl]; exact hc i hi
theorem rdrow_of_block {w : World} {b : Nat} {C : Array Value} {t : TypeId} {fr : Nat × Nat} (hb : w.heap[b]? = some (.cells C t fr)) (size n cap : Nat) (hC : C.size = n * size) : RdRow w size (.slice (some ⟨b, 0, none⟩) n cap) n C.toList := by
  refine ⟨by simpa using hC, .inr ⟨b, 0, cap, rfl, (Array.getElem?_eq_some_iff.1 hb).1, fun i hi => ?_⟩⟩
  simp [World.cell?, hb]
/-- The k-th element's cells. -/
theorem flat_at {α : Type} (cells : α → List Value) (size : Nat) (hs : ∀ x, (cells x).length = size) : ∀ (l : List α) (k : Nat) (x : α) (j : Nat), l[k]? = some x → j < size → (l.flatMap cells)[k * size + j]? = (cells x)[j]?
  | [], k, x, j, h, _ => by simp at h
  | a :: l, 0, x, j, h, hj => by
    simp at h; subst h
    rw [List.flatMap_cons, Nat.zero_mul, Nat.zero_add, List.getElem?_append_left (by rw [hs]; exact hj)]
  | a :: l, k + 1, x, j, h, hj => by
    rw [List.flatMap_cons, List.getElem?_append_right (by rw [hs, Nat.succ_mul]; omega), hs, show (k + 1) * size + j - size = k * size + j by rw [Nat.succ_mul]; omega]
    exact flat_at cells size hs l k x j (by simpa using h) hj
theorem flat_len {α : Type} (cells : α → List Value) (size : Nat) (hs : ∀ x, (cells x).length = size) (l : List α) : (l.flatMap cells).length = l.length * size := by
  induction l with
  | nil => simp
  | cons a l ih => rw [List.flatMap_cons, List.length_append, hs, ih, List.length_cons, Nat.succ_mul]; omega

theorem take_get {α : Type} (l : List α) (k : Nat) (x : α) (h : l[k]? = some x) : l.take (k + 1) = l.take k ++ [x] := by
  obtain ⟨hk, rfl⟩ := List.getElem?_eq_some_iff.1 h
  rw [List.take_succ_eq_append_getElem hk]

theorem ret_i {k : IntKind} {a b : Int} (h : a = b) : Ending.returned (.int k a) = .returned (.int k b) := by rw [h]
theorem more_same (w : World) (M : List (Array Obj)) (k n : Nat) : More (wd w M k) (wd w M n) := ⟨#[], n, world_ext (Array.append_empty).symm rfl rfl rfl rfl⟩
theorem more_cons {W w : World} {M : List (Array Obj)} {p : Array Obj} {n : Nat} (h : More W (wd w M n)) : More W (wd w (p :: M) n) := h.onto p n
theorem div_split (i : Nat) : ∀ size, 0 < size → i = (i / size) * size + i % size := fun size h => by rw [Nat.mul_comm]; exact (Nat.div_add_mod i size).symm
/-- A row in an old block, element by element. -/
theorem rdrow_of_fn {α : Type} (cells : α → List Value) (size : Nat) (hs : ∀ x, (cells x).length = size) (hpos : 0 < size) {w : World} {b off len cap : Nat} (f : Nat → α) (hb : b < w.heap.size)
    (h : ∀ k, k < len → ∀ j, j < size → w.cell? ⟨b, off + (k * size + j), none⟩ = (cells (f k))[j]?) :
    RdRow w size (.slice (some ⟨b, off, none⟩) len cap) ((List.range len).map f).length (((List.range len).map f).flatMap cells) := by
  have hl : ((List.range len).map f).length = len := by simp
  refine ⟨flat_len cells size hs _, .inr ⟨b, off, cap, by rw [hl], hb, fun i hi => ?_⟩⟩
  rw [hl] at hi
  have hk : i / size < len := by rw [Nat.div_lt_iff_lt_mul hpos]; exact hi
  have hj : i % size < size := Nat.mod_lt _ hpos
  have h1 := h (i / size) hk (i % size) hj
  have h2 := flat_at cells size hs ((List.range len).map f) (i / size) (f (i / size)) (i % size) (by simp [hk]) hj
  rw [← div_split i size hpos] at h1 h2
  rw [h1, h2]
theorem Rd.one_bool {P : Program} {w : World} {t : TypeId} {v : Value} (ht : P.underlying t = some .bool) {r : Reach} {b : Nat} (hk : Value.okWide P w r b t v) (h : Rd P w t v.cells.toList) : ∃ x, v = .bool x := by
  obtain ⟨n, h1⟩ := h.bool ht
  refine ⟨n, ?_⟩
  simp only [Value.okWide, ht, Cell.okWide] at hk
  cases v <;> simp_all [Cell.ok, Value.cells]
theorem okWide_array {P : Program} {w : World} {r : Reach} {b : Nat} {t e : TypeId} {n : Nat} {v : Value} (ht : P.underlying t = some (.array n e)) (h : Value.okWide P w r b t v) : ∃ cs, v = .agg cs ∧ cs.size = P.cellsOf t := by
  simp only [Value.okWide, ht] at h
  obtain ⟨cs, h1, h2, _⟩ := h
  exact ⟨cs, h1, h2⟩
theorem slice_of_cells {v : Value} {a : Option Addr} {len cap : Nat} (h : v.cells.toList = [.slice a len cap]) {P : Program} {t e : TypeId} {w : World} {r : Reach} {b : Nat} (ht : P.underlying t = some (.slice e)) (hk : Value.okWide P w r b t v) : v = .slice a len cap := by
  obtain ⟨a', l', c', rfl⟩ := okWide_slice ht hk
  simpa [Value.cells] using h
theorem Rd.one_int {P : Program} {w : World} {t : TypeId} {k : IntKind} {v : Value} (ht : P.underlying t = some (.int k)) {r : Reach} {b : Nat} (hk : Value.okWide P w r b t v) (h : Rd P w t v.cells.toList) : ∃ n, v = .int k n ∧ (Lit.int k n).wf = true := by
  obtain ⟨n, h1, h2⟩ := h.int ht
  refine ⟨n, ?_, h2⟩
  simp only [Value.okWide, ht, Cell.okWide] at hk
  cases v <;> simp_all [Cell.ok, Value.cells]


/-! ### what a callee made, seen from its caller -/
theorem row_base {B : Nat} {S : List Nat} {e : Array Obj} {E : TypeId} {size : Nat} {v : Value} {n : Nat} {xs : List Value} (h : rowIn (sz B S) [] e E size v n xs) : rowIn B S e E size v n xs := h
/-- A literal's own block. -/
theorem rowIn_lit (B : Nat) (S : List Nat) (C : Array Value) (E : TypeId) (size n : Nat) (hm : n ≤ maxLen) (hs : C.size = n * size) : rowIn B S #[.cells C E] E size (.slice (some ⟨sz B S, 0, none⟩) n n) n C.toList :=
  ⟨by simpa using hs, .inr ⟨0, n, C, rfl, by simp, rfl, Nat.le_refl _, hm, hs, List.take_of_length_le (by rw [Array.length_toList, hs]; exact Nat.le_refl _)⟩⟩
/-- A row in a piece, seen from beneath: the piece with what lies under it. -/
theorem rowIn_under {B : Nat} {S : List Nat} {d e : Array Obj} {E : TypeId} {size : Nat} {v : Value} {n : Nat} {xs : List Value} (h : rowIn B (d.size :: S) e E size v n xs) : rowIn B S (d ++ e) E size v n xs := by
  obtain ⟨h1, h2⟩ := h
  refine ⟨h1, ?_⟩
  rcases h2 with h2 | ⟨j, cap, cur, hv, hj, he, r⟩
  · exact .inl h2
  · refine .inr ⟨d.size + j, cap, cur, ?_, by rw [Array.size_append]; omega, ?_, r⟩
    · rw [hv]
      have : at' B (d.size :: S) j = at' B S (d.size + j) := by simp only [at', sz]; omega
      rw [this]
    · rw [Array.getElem?_append, if_neg (by omega), show d.size + j - d.size = j by omega]
      exact he
/-- What a callee's result owns, for its caller: the piece that came, above L. -/
structure Made (w w' : World) (E : TypeId) (size : Nat) (v : Value) (n : Nat) (xs : List Value) : Prop where
  out : ∃ m : Ext, w' = plus w m.e m.n ∧ rowIn w.heap.size [] m.e E size v n xs
theorem made_of {w : World} {e : Array Obj} {n k : Nat} {E : TypeId} {size : Nat} {v : Value} {xs : List Value} (h : rowIn w.heap.size [] e E size v n xs) : Made w (wd w [e] k) E size v n xs :=
  ⟨⟨e, k⟩, world_ext rfl rfl rfl rfl rfl, h⟩
theorem Made.more {w w' : World} {E : TypeId} {size : Nat} {v : Value} {n : Nat} {xs : List Value} (h : Made w w' E size v n xs) : More w w' := by
  obtain ⟨m, rfl, _⟩ := h.out; exact ⟨_, _, rfl⟩
theorem Made.wd {w w' : World} {L : List (Array Obj)} {k : Nat} {E : TypeId} {size : Nat} {v : Value} {n : Nat} {xs : List Value} (h : Made (wd w L k) w' E size v n xs) : ∃ m : Ext, w' = Go.Proofs.YtepdkcikkemieaaGreat.wd w (m.e :: L) m.n ∧ rowIn w.heap.size (shape L) m.e E size v n xs := by
  obtain ⟨m, rfl, hr⟩ := h.out
  refine ⟨m, rfl, ?_⟩
  rw [wd_size] at hr
  exact row_base hr
theorem wd_merge3 (w : World) (a b c : Array Obj) (L : List (Array Obj)) (n : Nat) : wd w (c :: b :: a :: L) n = wd w ((a ++ (b ++ c)) :: L) n := by rw [wd_merge, wd_merge]
theorem wd_merge4 (w : World) (a b c d : Array Obj) (L : List (Array Obj)) (n : Nat) : wd w (d :: c :: b :: a :: L) n = wd w ((a ++ (b ++ (c ++ d))) :: L) n := by rw [wd_merge, wd_merge3]

/-! ### append of a whole slice, of a string -/
theorem addr_add0 (b j : Nat) : ((⟨b, 0, none⟩ : Addr).add j) = ⟨b, j, none⟩ := by unfold Addr.add; split <;> simp_all
theorem addr_add (b o j : Nat) : ((⟨b, o, none⟩ : Addr).add j) = ⟨b, o + j, none⟩ := by unfold Addr.add; split <;> simp_all
theorem run_append_own_none {P : Program} (w : World) (base : Nat) (t ty e : TypeId) (i : TypeInfo) (size : Nat) (ht : P.underlying t = some (.slice e)) (hi : P.info? e = some i)
    (v : Value) (n : Nat) (xs : List Value) (hown : w.ownsRow base e size v n xs) (c : Nat) :
    (Builtin.append_ #[t, t] ty #[v, .slice none 0 c]).run P w = .ok v w := by
  rcases hown.2 with ⟨rfl, rfl⟩ | ⟨g, cap, cur, rfl, _, _, hnc, _⟩
  · simp [Builtin.append_, run_underlying ht, sizeOf, typeInfo, hi, Builtin.lenOf, Builtin.firstCells]
  · simp [Builtin.append_, run_underlying ht, sizeOf, typeInfo, hi, Builtin.lenOf, Builtin.firstCells, hnc, storeCells]
/-- 'append(s, x...)', x whatever can be read. -/
theorem wp_append_src {P : Program} {ops : Array Oper} {rest : List Oper} {o : Oper} {a : Act} {Q : Exit → Act → World → Prop} (hgd : o.guard = none) (s x : Operand) (t : TypeId)
    (ho : o.op = .call { callee := .builtin .append, args := #[s, x], argTypes := #[t, t] })
    (e : TypeId) (i : TypeInfo) (z : Value) (size bytes : Nat) (ht : P.underlying t = some (.slice e)) (hi : P.info? e = some i) (hz : i.zero = some z)
    (hsize : i.size = size) (hby : i.bytes = bytes) (hzs : z.cells.size = size) (hsz : 0 < size)
    {W w : World} {L : List (Array Obj)} {n : Nat} {m : Array Obj} (hW : W = wd w (m :: L) n) (v : Value) (k : Nat) (xs : List Value) (hs : a.eval s = v) (hrow : rowIn w.heap.size (shape L) m e size v k xs)
    (u : Value) (q : Nat) (ys : List Value) (hx : a.eval x = u) (hsrc : RdRow W size u q ys) (h1 : ∀ u ∈ ys, u.oneCell' = true)
    (h63 : k + q ≤ maxLen) (hbytes : (k + q) * bytes ≤ 140737488355328)
    (h : ∀ (v' : Value) (m' : Ext), rowIn w.heap.size (shape L) m'.e e size v' (k + q) (xs ++ ys) → wpList P ops Q rest (a.put o.dst v') (wd w (m'.e :: L) m'.n)) :
    wpList P ops Q (o :: rest) a W := by
  subst hW
  have hown := owns_of_row (k := n) hrow
  have hr : ∀ k, v.ownBlock = some k → sz w.heap.size (shape L) ≤ k := fun k hk => by
    rcases hrow.2 with ⟨rfl, _⟩ | ⟨j, cap, cur, rfl, _⟩
    · simp [Value.ownBlock] at hk
    · simp only [Value.ownBlock, Option.some.injEq] at hk; unfold at' at hk; omega
  have hbase : sz w.heap.size (shape L) ≤ (wd w (m :: L) n).heap.size := by rw [wd_size, shape_cons]; simp only [sz]; omega
  have fin : ∀ (ad : Addr) (c : Nat), u = .slice (some ad) q c → (∀ j u, ys[j]? = some u → (wd w (m :: L) n).cell? (ad.add j) = some u) → wpList P ops Q (o :: rest) a (wd w (m :: L) n) := fun ad c hu hc => by
    refine wpList_append_own _ hgd s x t ho (sz w.heap.size (shape L)) e i z size bytes ht hi hz hsize hby hzs hsz v k xs hs hown ad q c ys (by rw [hx, hu]) hsrc.1 hc h1 h63 hbytes hbase ?_
    intro v' w' hown' hg _
    obtain ⟨m', rfl⟩ := grown_piece (m := 0) hg hr
    exact h v' m' (row_of_owns hown')
  obtain ⟨hl, ⟨h0, ao, c, hu⟩ | ⟨b, off, cap, hu, hb, hc⟩⟩ := hsrc
  · subst h0
    have hys : ys = [] := List.eq_nil_of_length_eq_zero (by simpa using hl)
    subst hys
    cases ao with
    | some ad => exact fin ad c hu (fun j u hu => by simp at hu)
    | none =>
      refine wpList_plain hgd fun K hK' => ?_
      have hrun := run_append_own_none (P := P) (wd w (m :: L) n) (sz w.heap.size (shape L)) t o.type e i size ht hi v k xs hown c
      have h2 := h v ⟨m, n⟩ (by simpa using hrow)
      unfold Oper.wp
      simp [execOp, ho, resolve, invoke, builtin, hs, hx, hu, hrun, Result.andThen]
      exact hK' _ _ h2
  · refine fin ⟨b, off, none⟩ cap hu fun j u hu => ?_
    have hj : j < q * size := by rw [← hl]; exact (List.getElem?_eq_some_iff.1 hu).1
    rw [addr_add, hc j hj, hu]
/-- 'append(s, x...)', x a string. -/
theorem wp_append_str {P : Program} {ops : Array Oper} {rest : List Oper} {o : Oper} {a : Act} {Q : Exit → Act → World → Prop} (hgd : o.guard = none) (s x : Operand) (t u : TypeId)
    (ho : o.op = .call { callee := .builtin .append, args := #[s, x], argTypes := #[t, u] })
    (e : TypeId) (i : TypeInfo) (ht : P.underlying t = some (.slice e)) (hu : P.underlying u = some .string) (hi : P.info? e = some i) (hz : i.zero = some (.int .u8 0))
    (hsize : i.size = 1) (hby : i.bytes = 1)
    {W w : World} {L : List (Array Obj)} {n : Nat} {m : Array Obj} (hW : W = wd w (m :: L) n) (v : Value) (k : Nat) (xs : List Value) (hs : a.eval s = v) (hrow : rowIn w.heap.size (shape L) m e 1 v k xs)
    (str : ByteArray) (hx : a.eval x = .string str)
    (h63 : k + str.size ≤ maxLen) (hbytes : k + str.size ≤ 140737488355328)
    (h : ∀ (v' : Value) (m' : Ext), rowIn w.heap.size (shape L) m'.e e 1 v' (k + str.size) (xs ++ Lib.byteCells str.data.toList) → wpList P ops Q rest (a.put o.dst v') (wd w (m'.e :: L) m'.n)) :
    wpList P ops Q (o :: rest) a W := by
  subst hW
  have hown := owns_of_row (k := n) hrow
  refine Lib.wpList_append_own_string (w := _) hgd s x t u ho (sz w.heap.size (shape L)) e i ht hu hi hz hsize hby v k xs hs hown str hx h63 hbytes (by rw [wd_size, shape_cons]; simp only [sz]; omega) ?_
  intro v' w' hown' hg _
  have hr : ∀ k, v.ownBlock = some k → sz w.heap.size (shape L) ≤ k := fun k hk => by
    rcases hrow.2 with ⟨rfl, _⟩ | ⟨j, cap, cur, rfl, _⟩
    · simp [Value.ownBlock] at hk
    · simp only [Value.ownBlock, Option.some.injEq] at hk; unfold at' at hk; omega
  obtain ⟨m', rfl⟩ := grown_piece (m := 0) hg hr
  exact h v' m' (row_of_owns hown')
end Go.Proofs.YtepdkcikkemieaaGreat
