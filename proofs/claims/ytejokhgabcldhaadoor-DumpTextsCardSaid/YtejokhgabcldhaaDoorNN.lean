/- Rows told with their block's type; what an append leaves as it was. The builder's WriteString, told so. -/
import Derived.Test.YtejokhgabcldhaaDoorND
import Derived.Test.YtejokhgabcldhaaDoorNH
namespace Go.Proofs.YtejokhgabcldhaaDoor
open Go.ChangeShapes Go.WideShapes Go.ChangeAt Go.RowKit
set_option linter.unusedVariables false
set_option linter.unusedSimpArgs false

/-- All blocks stay, but those of the types T. -/
def Keeps (T : List TypeId) (W W' : World) : Prop := ∀ (b : Nat) (C : Array Value) (t : TypeId) (fr : Nat × Nat), W.heap[b]? = some (Obj.cells C t fr) → t ∉ T → W'.heap[b]? = some (Obj.cells C t fr)
theorem Keeps.of_more {T : List TypeId} {W W' : World} (h : More W W') : Keeps T W W' := by
  obtain ⟨x, n, rfl⟩ := h
  intro b C t fr hb _
  rw [plus_block _ _ _ _ (Array.getElem?_eq_some_iff.1 hb).1]; exact hb
theorem Keeps.trans {T : List TypeId} {a b c : World} (h : Keeps T a b) (k : Keeps T b c) : Keeps T a c := fun i C t fr hb ht => k i C t fr (h i C t fr hb ht) ht
theorem Keeps.wide {T T' : List TypeId} {a b : World} (h : Keeps T a b) (hT : ∀ t, t ∈ T → t ∈ T') : Keeps T' a b := fun i C t fr hb ht => h i C t fr hb (fun hm => ht (hT t hm))
theorem keeps_grown {W W' : World} {B : Nat} {E : TypeId} {size : Nat} {v : Value} {n : Nat} {xs : List Value} (hown : W.ownsRow B E size v n xs) (hg : W.grownBy W' v.ownBlock) : Keeps [E] W W' := by
  intro b C t fr hb ht
  rw [hg.block b (Array.getElem?_eq_some_iff.1 hb).1 (fun he => ?_)]
  · exact hb
  · rcases hown.2 with ⟨rfl, _⟩ | ⟨g, cap, cur, rfl, _, hc, _⟩
    · simp [Value.ownBlock] at he
    · simp only [Value.ownBlock, Option.some.injEq] at he
      subst he
      rw [hb] at hc
      simp only [Option.some.injEq, Obj.cells.injEq] at hc
      exact ht (by rw [hc.2.1]; simp)
/-- A row, told with its block's type. -/
structure TRow {α : Type} (cells : α → List Value) (E : TypeId) (w : World) (a : Option Addr) (l : List α) : Prop where
  out : l ≠ [] → ∃ (b : Nat) (C : Array Value) (fr : Nat × Nat), a = some ⟨b, 0, none⟩ ∧ w.heap[b]? = some (Obj.cells C E fr) ∧ ∀ i, i < (l.flatMap cells).length → C[i]? = (l.flatMap cells)[i]?
theorem TRow.nil {α : Type} {cells : α → List Value} {E : TypeId} {w : World} (a : Option Addr) : TRow cells E w a [] := ⟨fun h => absurd rfl h⟩
theorem TRow.keeps {α : Type} {cells : α → List Value} {E : TypeId} {T : List TypeId} {w w' : World} {a : Option Addr} {l : List α} (h : TRow cells E w a l) (hk : Keeps T w w') (hE : E ∉ T) : TRow cells E w' a l := ⟨fun hne => by
  obtain ⟨b, C, fr, ha, hb, hc⟩ := h.out hne
  exact ⟨b, C, fr, ha, hk b C E fr hb hE, hc⟩⟩
theorem TRow.more {α : Type} {cells : α → List Value} {E : TypeId} {w w' : World} {a : Option Addr} {l : List α} (h : TRow cells E w a l) (hm : More w w') : TRow cells E w' a l := h.keeps (T := []) (Keeps.of_more hm) (by simp)
theorem TRow.at {α : Type} {cells : α → List Value} {E : TypeId} {size : Nat} {w : World} {a : Option Addr} {l : List α} (h : TRow cells E w a l) (hs : ∀ x, (cells x).length = size) : RowAt cells size w a l := ⟨fun hne => by
  obtain ⟨b, C, fr, ha, hb, hc⟩ := h.out hne
  refine ⟨b, 0, ha, (Array.getElem?_eq_some_iff.1 hb).1, fun i hi => ?_⟩
  rw [Nat.zero_add]
  simp only [World.cell?, hb]
  exact hc i (by rw [flat_len cells size hs]; exact hi)⟩
theorem trow_of_row {α : Type} {cells : α → List Value} {E : TypeId} {size : Nat} {w : World} {L : List (Array Obj)} {k : Nat} {e : Array Obj} {ad : Option Addr} {n cap : Nat} {l : List α} (hs : ∀ x, (cells x).length = size) (hn : n = l.length)
    (h : rowIn w.heap.size (shape L) e E size (.slice ad n cap) n (l.flatMap cells)) : TRow cells E (wd w (e :: L) k) ad l ∧ n ≤ cap := by
  subst hn
  rcases h.2 with ⟨h1, h2⟩ | ⟨j, c, cur, h1, hj, he, h2, _, hsz, hx⟩
  · refine ⟨⟨fun hne => absurd (List.length_eq_zero_iff.1 h2) hne⟩, by injection h1 with _ _ h3; omega⟩
  · injection h1 with g1 g2 g3
    subst g3
    refine ⟨⟨fun hne => ⟨_, cur, (0, 0), g1, by rw [wd_block_in w L k _ j _ e rfl rfl]; exact he, fun i hi => ?_⟩⟩, h2⟩
    rw [← hx, List.getElem?_take, if_pos (by rw [flat_len cells size hs] at hi; exact hi)]
    simp
/-- 'append(s, x...)', x a string: what else there is stays. -/
theorem wp_append_strK {P : Program} {ops : Array Oper} {rest : List Oper} {o : Oper} {a : Act} {Q : Exit → Act → World → Prop} (hgd : o.guard = none) (s x : Operand) (t u : TypeId)
    (ho : o.op = .call { callee := .builtin .append, args := #[s, x], argTypes := #[t, u] })
    (e : TypeId) (i : TypeInfo) (ht : P.underlying t = some (.slice e)) (hu : P.underlying u = some .string) (hi : P.info? e = some i) (hz : i.zero = some (.int .u8 0))
    (hsize : i.size = 1) (hby : i.bytes = 1)
    {W w : World} {L : List (Array Obj)} {n : Nat} {m : Array Obj} (hW : W = wd w (m :: L) n) (v : Value) (k : Nat) (xs : List Value) (hs : a.eval s = v) (hrow : rowIn w.heap.size (shape L) m e 1 v k xs)
    (str : ByteArray) (hx : a.eval x = .string str)
    (h63 : k + str.size ≤ maxLen) (hbytes : k + str.size ≤ 140737488355328)
    (h : ∀ (v' : Value) (m' : Ext), rowIn w.heap.size (shape L) m'.e e 1 v' (k + str.size) (xs ++ Lib.byteCells str.data.toList) → Keeps [e] W (wd w (m'.e :: L) m'.n) → wpList P ops Q rest (a.put o.dst v') (wd w (m'.e :: L) m'.n)) :
    wpList P ops Q (o :: rest) a W := by
  subst hW
  have hown := owns_of_row (k := n) hrow
  refine Lib.wpList_append_own_string (w := _) hgd s x t u ho (sz w.heap.size (shape L)) e i ht hu hi hz hsize hby v k xs hs hown str hx h63 hbytes (by rw [wd_size, shape_cons]; simp only [sz]; omega) ?_
  intro v' w' hown' hg _
  have hr : ∀ k, v.ownBlock = some k → sz w.heap.size (shape L) ≤ k := fun k hk => by
    rcases hrow.2 with ⟨rfl, _⟩ | ⟨j, cap, cur, rfl, _⟩
    · simp [Value.ownBlock] at hk
    · simp only [Value.ownBlock, Option.some.injEq] at hk; unfold at' at hk; omega
  have hk := keeps_grown hown hg
  obtain ⟨m', rfl⟩ := grown_piece (m := 0) hg hr
  exact h v' m' (row_of_owns hown') hk
/-- 'append(s, x)', x one element: what else there is stays. -/
theorem wp_append_rowK {P : Program} {ops : Array Oper} {rest : List Oper} {o : Oper} {a : Act} {Q : Exit → Act → World → Prop} (hgd : o.guard = none) (s x : Operand) (t : TypeId)
    (ho : o.op = .call { callee := .builtin .append, args := #[s, x], argTypes := #[t, t] })
    (e : TypeId) (i : TypeInfo) (z : Value) (size bytes : Nat) (ht : P.underlying t = some (.slice e)) (hi : P.info? e = some i) (hz : i.zero = some z)
    (hsize : i.size = size) (hby : i.bytes = bytes) (hzs : z.cells.size = size) (hsz : 0 < size)
    {w : World} {L : List (Array Obj)} {n : Nat} {m : Array Obj} (v : Value) (k : Nat) (xs : List Value) (hs : a.eval s = v) (hrow : rowIn w.heap.size (shape L) m e size v k xs)
    (C : Array Value) (t' : TypeId) (q c : Nat) (hx : a.eval x = .slice (some ⟨sz w.heap.size (m.size :: shape L), 0, none⟩) q c) (hl : C.size = q * size) (h1 : ∀ u ∈ C.toList, u.oneCell' = true)
    (h63 : k + q ≤ maxLen) (hbytes : (k + q) * bytes ≤ 140737488355328)
    (h : ∀ (v' : Value) (m' : Ext), rowIn w.heap.size (shape L) m'.e e size v' (k + q) (xs ++ C.toList) → Keeps [e] (wd w (m :: L) n) (wd w (m'.e :: L) m'.n) → wpList P ops Q rest (a.put o.dst v') (wd w (m'.e :: L) m'.n)) :
    wpList P ops Q (o :: rest) a (wd w (#[.cells C t'] :: m :: L) n) := by
  have hk0 : Keeps [e] (wd w (m :: L) n) (wd w (#[.cells C t'] :: m :: L) n) := Keeps.of_more ⟨#[.cells C t'], n, rfl⟩
  rw [wd_merge] at hk0 ⊢
  have hown := owns_of_row (k := n) (rowIn_more hrow #[.cells C t'])
  refine wpList_append_own _ hgd s x t ho (sz w.heap.size (shape L)) e i z size bytes ht hi hz hsize hby hzs hsz v k xs hs hown _ q c C.toList hx (by simpa using hl) (fun j u hu => ?_) h1 h63 hbytes (by rw [wd_size, shape_cons]; simp only [sz]; omega) ?_
  · rw [← wd_merge]
    have e1 : ((⟨sz w.heap.size (m.size :: shape L), 0, none⟩ : Addr).add j) = ⟨sz w.heap.size (m.size :: shape L), j, none⟩ := by
      unfold Addr.add; split <;> simp_all
    rw [e1, wd_cell w (m :: L) n w.heap.size j (m.size :: shape L) C t' (0, 0) rfl rfl]
    simpa using hu
  · intro v' w' hown' hg _
    have hr : ∀ k, v.ownBlock = some k → sz w.heap.size (shape L) ≤ k := fun k hk => by
      rcases hrow.2 with ⟨rfl, _⟩ | ⟨j, cap, cur, rfl, _⟩
      · simp [Value.ownBlock] at hk
      · simp only [Value.ownBlock, Option.some.injEq] at hk; unfold at' at hk; omega
    have hk := hk0.trans (keeps_grown hown hg)
    obtain ⟨m', rfl⟩ := grown_piece (m := 0) hg hr
    exact h v' m' (row_of_owns hown') hk
section
variable {ops : Array Oper} {rest : List Oper} {o : Oper} {a : Act} {Q : Exit → Act → World → Prop} {w : World} {L : List (Array Obj)} {n : Nat} {m : Array Obj} {v : Value} {l l2 : List UInt8}
theorem at_append_strK (hgd : o.guard = none) (s x : Operand) (ho : o.op = .call { callee := .builtin .append, args := #[s, x], argTypes := #[49, 9] })
    (hs : a.eval s = v) (hrow : BRow w L m v l) (hx : a.eval x = .string (str l2)) (hlen : l.length + l2.length ≤ 1099511627776)
    (h : ∀ (v' : Value) (m' : Ext), BRow w L m'.e v' (l ++ l2) → Keeps [5] (wd w (m :: L) n) (wd w (m'.e :: L) m'.n) → wpList Tryd.prog ops Q rest (a.put o.dst v') (wd w (m'.e :: L) m'.n)) :
    wpList Tryd.prog ops Q (o :: rest) a (wd w (m :: L) n) := by
  obtain ⟨i0, hi, hz0, hz1, hz2⟩ := info_parts info_u8
  refine wp_append_strK hgd s x 49 9 ho 5 i0 Tryd.underlying49 Tryd.underlying9 hi hz0 hz1 hz2 rfl v _ _ hs hrow (str l2) hx (by rw [str_size]; unfold maxLen; omega) (by rw [str_size]; omega) ?_
  intro v' m' hr hk
  exact h v' m' (row_bytes hr _ (by rw [bc_append]; rfl)) hk
end
theorem keeps_bld (w : World) (L : List (Array Obj)) (n k : Nat) (m d : Array Obj) (q q' : Option Addr) (v v' : Value) : Keeps [5, 57] (wd w (m :: d :: bld q v :: L) n) (wd w (m :: d :: bld q' v' :: L) k) := by
  intro b C t fr hb ht
  have e : ∀ q v n, (wd w (m :: d :: bld q v :: L) n).heap[b]? = (hp w.heap L ++ (bld q v ++ (d ++ m)))[b]? := fun q v n => by
    show (((hp w.heap L ++ bld q v) ++ d) ++ m)[b]? = _
    rw [Array.append_assoc, Array.append_assoc]
  rw [e] at hb ⊢
  rw [Array.getElem?_append] at hb ⊢
  by_cases h1 : b < (hp w.heap L).size
  · rw [if_pos h1] at hb ⊢; exact hb
  · rw [if_neg h1] at hb ⊢
    rw [Array.getElem?_append] at hb ⊢
    by_cases h2 : b - (hp w.heap L).size < 1
    · rw [if_pos (by exact h2)] at hb
      have h0 : b - (hp w.heap L).size = 0 := by omega
      rw [h0] at hb
      have hb2 : some (Obj.cells #[.pointer q, v] 57) = some (.cells C t fr) := hb
      simp only [Option.some.injEq, Obj.cells.injEq] at hb2
      exact absurd (by rw [← hb2.2.1]; simp) ht
    · rw [if_neg (by exact h2)] at hb ⊢; exact hb
/-- What WriteString leaves: the builder, its bytes, and what else there is. -/
structure BldKept (w : World) (L : List (Array Obj)) (d : Array Obj) (l : List UInt8) (W w' : World) : Prop where
  out : ∃ (v : Value) (m : Ext), w' = wd w (m.e :: d :: bld (some (self w L)) v :: L) m.n ∧ BRow w (d :: bld (some (self w L)) v :: L) m.e v l ∧ Keeps [5, 57] W w'
set_option maxRecDepth 100000 in
set_option maxHeartbeats 1600000 in
theorem bld_strK (w : World) (L : List (Array Obj)) (n : Nat) (m d : Array Obj) (q : Option Addr) (v : Value) (l : List UInt8) (hq : q = none ∨ q = some (self w L)) (l2 : List UInt8) (hr : BRow w (d :: bld q v :: L) m v l) (hl : l.length ≤ 549755813888) (hl2 : l2.length ≤ 549755813888) :
    Calls Tryd.prog 35 #[.pointer (some (self w L)), .string (str l2)] (wd w (m :: d :: bld q v :: L) n) fun x w' => x = .returned (.tuple #[.int .i64 l2.length, .nilIface]) ∧ BldKept w L d (l ++ l2) (wd w (m :: d :: bld q v :: L) n) w' := by
  have hc := copy_any w L n m d q v hq
  have hsz := str_size l2
  go_enter Tryd.func35, Tryd.ntmps35
  go_wp2_with (first
    | (go_at_call 42; refine hc.mono ?_; rintro x w1 ⟨rfl, rfl⟩; clear hc)
    | (at_builtin; refine at_append_strK (L := d :: bld (some (self w L)) v :: L) rfl _ _ rfl rfl (brow_bld hr) rfl (by omega) ?_; clear hr; intro v' m' hr' hk; have HK := Lib.hid hk; clear hk; obtain ⟨a5, c5, rfl⟩ := rowIn_slice hr'))
  go_ret2
  exact ⟨rfl, ⟨_, m', rfl, by rw [show l.length + l2.length = (l ++ l2).length by simp]; exact brow_bld hr', (keeps_bld w L n n m d _ _ _ _).trans ((HK.out.wide (by simp)).trans (keeps_bld w L _ _ _ _ _ _ _ _))⟩⟩
end Go.Proofs.YtejokhgabcldhaaDoor
