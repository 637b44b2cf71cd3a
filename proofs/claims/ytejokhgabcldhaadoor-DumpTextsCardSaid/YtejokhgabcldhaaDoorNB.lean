/- The bytes of a text. -/
import Derived.Test.YtejokhgabcldhaaDoorMA
import Derived.Lib.ConvBytes
import Derived.Test.YtejokhgabcldhaaDoorNA
import Derived.Test.YtejokhgabcldhaaDoorMC
import Derived.Lib.Builder
namespace Go.Proofs.YtejokhgabcldhaaDoor
open Go.ChangeShapes Go.WideShapes Go.ChangeAt Go.RowKit
set_option linter.unusedVariables false
set_option linter.unusedSimpArgs false

theorem str_toList' (l : List UInt8) : (str l).data.toList = l := by simp [str]
theorem bytesWorld_plus (w : World) (e : TypeId) (s : ByteArray) : ∃ m : Ext, Lib.bytesWorld w e s = plus w m.e m.n := by
  refine ⟨⟨#[.cells (Lib.bytesCells w e s) e ((Lib.bytesCells w e s).size, (Lib.bytesCells w e s).size + 1)], w.drawn + 1⟩, ?_⟩
  refine world_ext ?_ rfl rfl rfl rfl
  apply Array.ext_getElem?
  intro j
  show (Lib.bytesWorld w e s).heap[j]? = (w.heap ++ #[_])[j]?
  rcases Nat.lt_trichotomy j w.heap.size with hj | hj | hj
  · rw [Lib.bytesWorld_at_old w e s j hj, Array.getElem?_append_left hj]
  · subst hj
    rw [Lib.bytesWorld_at_new, Array.getElem?_append_right (Nat.le_refl _)]
    simp
  · rw [Array.getElem?_eq_none (by rw [Lib.bytesWorld_size]; omega), Array.getElem?_eq_none (by simp; omega)]
theorem run_conv (w : World) (l : List UInt8) (hl : l.length ≤ 1099511627776) : ∃ (a : Option Addr) (cap : Nat) (m : Ext), (convert 9 49 (.string (str l))).run Tryd.prog w = .ok (.slice a l.length cap) (plus w m.e m.n) ∧ RB (plus w m.e m.n) (.slice a l.length cap) l := by
  obtain ⟨m, hm⟩ := bytesWorld_plus w 5 (str l)
  have hs : (str l).size = l.length := str_size l
  have h1 := grownCap_ge w (str l).size 0 5
  have h2 := grownCap_le_maxLen w (str l).size 0 5 (by rw [hs]; unfold maxLen; omega)
  rw [hs] at h1 h2
  refine ⟨some ⟨w.heap.size, 0, none⟩, grownCap w l.length 0 5, m, ?_, ?_⟩
  · rw [Lib.run_convert_string_bytes w _ _ 5 (str l) Tryd.underlying9 Tryd.underlying49 Tryd.underlying5, hm, hs]
  · refine ⟨_, _, rfl, h1, h2, fun hne => ⟨w.heap.size, 0, rfl, ?_, fun i hi => ?_⟩⟩
    · rw [← hm, Lib.bytesWorld_size]; omega
    · rw [← hm, Nat.zero_add, Lib.bytesWorld_cell _ _ _ _ (by rw [hs]; exact hi), bc_get, str_toList']
      simp [List.getD, List.getElem?_eq_getElem hi]
/-- '[]byte(x)', x a text. -/
theorem at_conv {ops : Array Oper} {rest : List Oper} {o : Oper} {a : Act} {Q : Exit → Act → World → Prop} {w : World} {L : List (Array Obj)} {n : Nat} {l : List UInt8} (hgd : o.guard = none) (x : Operand)
    (ho : o.op = .convert 9 49 x) (hx : a.eval x = .string (str l)) (hl : l.length ≤ 1099511627776)
    (h : ∀ (ad : Option Addr) (cap : Nat) (m : Ext), (∀ k, RB (wd w (m.e :: L) k) (.slice ad l.length cap) l) → wpList Tryd.prog ops Q rest (a.put o.dst (.slice ad l.length cap)) (wd w (m.e :: L) m.n)) :
    wpList Tryd.prog ops Q (o :: rest) a (wd w L n) := by
  obtain ⟨ad, cap, m, hrun, hrb⟩ := run_conv (wd w L n) l hl
  refine wpList_plain hgd fun K hK' => ?_
  have h2 := h ad cap m (fun k => hrb.more ⟨#[], k, by rw [wd_plus]; rw [show plus (wd w (m.e :: L) m.n) #[] k = wd w (#[] :: m.e :: L) k from rfl, wd_empty]⟩)
  unfold Oper.wp
  simp [execOp, ho, hx, hrun, Result.andThen]
  exact hK' _ _ h2
end Go.Proofs.YtejokhgabcldhaaDoor
/- dump: a strings.Builder of the call's own; '[]byte(s)' as a block of its own. -/
namespace Go.Proofs.YtejokhgabcldhaaDoor
open Go.ChangeShapes Go.WideShapes Go.ChangeAt Go.RowKit
set_option linter.unusedVariables false
set_option linter.unusedSimpArgs false

/-- The builder's block: what 'addr' holds, the bytes' slice. -/
abbrev bld (q : Option Addr) (v : Value) : Array Obj := #[.cells #[.pointer q, v] 57]
abbrev self (w : World) (L : List (Array Obj)) : Addr := ⟨sz w.heap.size (shape L), 0, none⟩
theorem wd_shape (w : World) (L : List (Array Obj)) (n B : Nat) (S : List Nat) (c : Array Value) (t : TypeId) (fr : Nat × Nat) (hB : B = w.heap.size) (hS : shape L = S) : (wd w (#[.cells c t fr] :: L) n).shape? (sz B S) = some (t, c.size) := by
  simp [World.shape?, wd_at w L n B S _ hB hS]
theorem wd_shape_past (w : World) (L : List (Array Obj)) (n B : Nat) (S : List Nat) (s : Array Obj) (hB : B = w.heap.size) (hS : inn S (shape L)) : (wd w (s :: L) n).shape? (sz B S) = (wd w L n).shape? (sz B S) := by
  simp [World.shape?, wd_past w L n B S s hB hS]
section
variable (w : World) (L : List (Array Obj)) (n : Nat) (m d : Array Obj) (q : Option Addr) (v : Value)
theorem bld_shape : (wd w (m :: d :: bld q v :: L) n).shape? (sz w.heap.size (shape L)) = some (57, 2) := by
  rw [wd_shape_past w _ n _ _ m rfl (by simp [shape_cons, inn_cons]), wd_shape_past w _ n _ _ d rfl (by simp [shape_cons, inn_cons])]
  exact wd_shape w L n _ _ _ _ _ rfl rfl
theorem sizeBld : ∃ j, Tryd.prog.info? 57 = some j ∧ j.size ≠ 0 := by
  have h : (Tryd.prog.info? 57).map (·.size) = some 2 := by kernel_rfl
  obtain ⟨j, hj, hs⟩ := Option.map_eq_some_iff.1 h
  exact ⟨j, hj, by rw [hs]; decide⟩
theorem liesBld : liesAt Tryd.prog Tryd.prog.depth 57 (2 / Tryd.prog.cellsOf 57) 0 57 1 = true := by kernel_rfl
theorem to_unsafe : (convert 55 96 (.pointer (some (self w L)))).run Tryd.prog (wd w (m :: d :: bld q v :: L) n) = .ok (.pointer (some (self w L))) (wd w (m :: d :: bld q v :: L) n) := by
  obtain ⟨j, hj, h0⟩ := sizeBld
  exact Lib.run_to_unsafe _ _ Tryd.underlying55 Tryd.underlying96 hj h0 (bld_shape w L n m d q v) (by show 0 < 2; decide)
theorem from_unsafe : (convert 96 55 (.pointer (some (self w L)))).run Tryd.prog (wd w (m :: d :: bld q v :: L) n) = .ok (.pointer (some (self w L))) (wd w (m :: d :: bld q v :: L) n) := by
  obtain ⟨j, hj, h0⟩ := sizeBld
  exact Lib.run_from_unsafe _ _ Tryd.underlying96 Tryd.underlying55 hj (bld_shape w L n m d q v) liesBld
theorem no_escape (x : Value) (W : World) : (callFunc 59 #[x]).run Tryd.prog W = .ok (.value x) W := by
  rw [run_callFunc_extern Tryd.func59 (by kernel_rfl) (by kernel_rfl) (by kernel_rfl) (e := Extern.AbiNoEscape.same) (by kernel_rfl), Lib.run_noEscape]
  rfl

theorem neq_self (W : World) : (binOp .neq 55 (.pointer (some (self w L))) (.pointer (some (self w L)))).run Tryd.prog W = .ok (.bool false) W := by
  obtain ⟨j, hj, h0⟩ := sizeBld
  exact Lib.run_neq_ptr_same _ _ Tryd.underlying55 hj
set_option maxRecDepth 100000 in
set_option maxHeartbeats 1600000 in
theorem copy_none : Calls Tryd.prog 42 #[.pointer (some (self w L))] (wd w (m :: d :: bld none v :: L) n) fun x w' => x = .returned (.tuple #[]) ∧ w' = wd w (m :: d :: bld (some (self w L)) v :: L) n := by
  have h1 := to_unsafe w L n m d none v
  have h2 := from_unsafe w L n m d none v
  have h3 := neq_self w L
  have h4 := no_escape
  go_enter Tryd.func42, Tryd.ntmps42
  go_wp2
  exact ⟨rfl, _, by kernel_rfl, rfl, rfl⟩
set_option maxRecDepth 100000 in
set_option maxHeartbeats 1600000 in
theorem copy_self : Calls Tryd.prog 42 #[.pointer (some (self w L))] (wd w (m :: d :: bld (some (self w L)) v :: L) n) fun x w' => x = .returned (.tuple #[]) ∧ w' = wd w (m :: d :: bld (some (self w L)) v :: L) n := by
  have h3 := neq_self w L

  go_enter Tryd.func42, Tryd.ntmps42
  go_wp2
  exact ⟨rfl, _, by kernel_rfl, rfl, rfl⟩
end
/-- What a call that wrote on left: the builder, and its bytes. -/
structure BldRet (w : World) (L : List (Array Obj)) (d : Array Obj) (l : List UInt8) (w' : World) : Prop where
  out : ∃ (v : Value) (m : Ext), w' = wd w (m.e :: d :: bld (some (self w L)) v :: L) m.n ∧ BRow w (d :: bld (some (self w L)) v :: L) m.e v l
theorem brow_bld {w : World} {L : List (Array Obj)} {d m : Array Obj} {q q' : Option Addr} {v v' u : Value} {l : List UInt8} (h : BRow w (d :: bld q v :: L) m u l) : BRow w (d :: bld q' v' :: L) m u l := h
section
variable (w : World) (L : List (Array Obj)) (n : Nat) (m d : Array Obj) (q : Option Addr) (v : Value) (l : List UInt8)
theorem copy_any (hq : q = none ∨ q = some (self w L)) : Calls Tryd.prog 42 #[.pointer (some (self w L))] (wd w (m :: d :: bld q v :: L) n) fun x w' => x = .returned (.tuple #[]) ∧ w' = wd w (m :: d :: bld (some (self w L)) v :: L) n := by
  rcases hq with rfl | rfl
  · exact copy_none w L n m d v
  · exact copy_self w L n m d v
set_option maxRecDepth 100000 in
set_option maxHeartbeats 1600000 in
theorem bld_byte (hq : q = none ∨ q = some (self w L)) (c : UInt8) (hr : BRow w (d :: bld q v :: L) m v l) (hl : l.length ≤ 549755813888) :
    Calls Tryd.prog 25 #[.pointer (some (self w L)), .int .u8 c.toNat] (wd w (m :: d :: bld q v :: L) n) fun x w' => x = .returned .nilIface ∧ BldRet w L d (l ++ [c]) w' := by
  have hc := copy_any w L n m d q v hq
  go_enter Tryd.func25, Tryd.ntmps25
  go_wp2_with (first
    | (go_at_call 42; refine hc.mono ?_; rintro x w1 ⟨rfl, rfl⟩; clear hc)
    | (at_builtin; refine at_append_byte (L := d :: bld (some (self w L)) v :: L) rfl _ _ rfl rfl (brow_bld hr) c.toNat c rfl _ rfl _ (by omega) ?_; clear hr; intro v' m' hr'; obtain ⟨a5, c5, rfl⟩ := rowIn_slice hr'))
  go_ret
  exact ⟨rfl, ⟨_, m', rfl, by rw [show l.length + 1 = (l ++ [c]).length by simp]; exact brow_bld hr'⟩⟩
set_option maxRecDepth 100000 in
set_option maxHeartbeats 1600000 in
theorem bld_write (hq : q = none ∨ q = some (self w L)) (u : Value) (l2 : List UInt8) (a2 : Option Addr) (c2 : Nat) (hu : u = .slice a2 l2.length c2) (hr : BRow w (d :: bld q v :: L) m v l) (hs : ∀ q v, RB (wd w (m :: d :: bld q v :: L) n) u l2) (hl : l.length ≤ 549755813888) (hl2 : l2.length ≤ 549755813888) :
    Calls Tryd.prog 26 #[.pointer (some (self w L)), u] (wd w (m :: d :: bld q v :: L) n) fun x w' => x = .returned (.tuple #[.int .i64 l2.length, .nilIface]) ∧ BldRet w L d (l ++ l2) w' := by
  have hc := copy_any w L n m d q v hq
  subst hu
  go_enter Tryd.func26, Tryd.ntmps26
  go_wp2_with (first
    | (go_at_call 42; refine hc.mono ?_; rintro x w1 ⟨rfl, rfl⟩; clear hc)
    | (at_builtin; refine at_append_rb (L := d :: bld (some (self w L)) v :: L) rfl _ _ rfl rfl (brow_bld hr) rfl (hs _ _) (by omega) ?_; clear hr hs; intro v' m' hr'; obtain ⟨a5, c5, rfl⟩ := rowIn_slice hr'))
  go_ret2
  exact ⟨rfl, ⟨_, m', rfl, by rw [show l.length + l2.length = (l ++ l2).length by simp]; exact brow_bld hr'⟩⟩
set_option maxRecDepth 100000 in
set_option maxHeartbeats 1600000 in
theorem bld_str (hq : q = none ∨ q = some (self w L)) (l2 : List UInt8) (hr : BRow w (d :: bld q v :: L) m v l) (hl : l.length ≤ 549755813888) (hl2 : l2.length ≤ 549755813888) :
    Calls Tryd.prog 35 #[.pointer (some (self w L)), .string (str l2)] (wd w (m :: d :: bld q v :: L) n) fun x w' => x = .returned (.tuple #[.int .i64 l2.length, .nilIface]) ∧ BldRet w L d (l ++ l2) w' := by
  have hc := copy_any w L n m d q v hq
  have hsz := str_size l2
  go_enter Tryd.func35, Tryd.ntmps35
  go_wp2_with (first
    | (go_at_call 42; refine hc.mono ?_; rintro x w1 ⟨rfl, rfl⟩; clear hc)
    | (at_builtin; refine at_append_str (L := d :: bld (some (self w L)) v :: L) rfl _ _ rfl rfl (brow_bld hr) rfl (by omega) ?_; clear hr; intro v' m' hr'; obtain ⟨a5, c5, rfl⟩ := rowIn_slice hr'))
  go_ret2
  exact ⟨rfl, ⟨_, m', rfl, by rw [show l.length + l2.length = (l ++ l2).length by simp]; exact brow_bld hr'⟩⟩
end
end Go.Proofs.YtejokhgabcldhaaDoor
