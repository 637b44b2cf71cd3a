/- The bytes of a text. -/
import Derived.Test.YtmbmibinnjfbdaaGreatMA
import Derived.Lib.ConvBytes
namespace Go.Proofs.YtmbmibinnjfbdaaGreat
open Go.ChangeShapes Go.WideShapes Go.ChangeAt Go.RowKit
set_option linter.unusedVariables false
set_option linter.unusedSimpArgs false

theorem str_toList' (l : List UInt8) : (str l).data.toList = l := by simp [str]
theorem bytesWorld_plus (w : World) (e : TypeId) (s : ByteArray) : ∃ m : Ext, Lib.bytesWorld w e s = plus w m.e m.n := by
  refine ⟨⟨#[.cells (Lib.bytesCells w e s) e ((Lib.bytesCells w e s).size, (Lib.bytesCells w e s).size + 1)], w.drawn + 1⟩, ?_⟩
  refine world_ext ?_ rfl rfl rfl rfl
  apply Array.ext_getElem?
  intro j
  show (Lib.bytesWorld w e s).heap[j]? = (w.heap ++ #[_])[j]?
  rcases Nat.lt_trichotomy j w.heap.size with hj | hj | hj
  · rw [Lib.bytesWorld_at_old w e s j hj, Array.getElem?_append_left hj]
  · subst hj
    rw [Lib.bytesWorld_at_new, Array.getElem?_append_right (Nat.le_refl _)]
    simp
  · rw [Array.getElem?_eq_none (by rw [Lib.bytesWorld_size]; omega), Array.getElem?_eq_none (by simp; omega)]
theorem run_conv (w : World) (l : List UInt8) (hl : l.length ≤ 1099511627776) : ∃ (a : Option Addr) (cap : Nat) (m : Ext), (convert 9 66 (.string (str l))).run Tryz.prog w = .ok (.slice a l.length cap) (plus w m.e m.n) ∧ RB (plus w m.e m.n) (.slice a l.length cap) l := by
  obtain ⟨m, hm⟩ := bytesWorld_plus w 5 (str l)
  have hs : (str l).size = l.length := str_size l
  have h1 := grownCap_ge w (str l).size 0 5
  have h2 := grownCap_le_maxLen w (str l).size 0 5 (by rw [hs]; unfold maxLen; omega)
  rw [hs] at h1 h2
  refine ⟨some ⟨w.heap.size, 0, none⟩, grownCap w l.length 0 5, m, ?_, ?_⟩
  · rw [Lib.run_convert_string_bytes w _ _ 5 (str l) Tryz.underlying9 Tryz.underlying66 Tryz.underlying5, hm, hs]
  · refine ⟨_, _, rfl, h1, h2, fun hne => ⟨w.heap.size, 0, rfl, ?_, fun i hi => ?_⟩⟩
    · rw [← hm, Lib.bytesWorld_size]; omega
    · rw [← hm, Nat.zero_add, Lib.bytesWorld_cell _ _ _ _ (by rw [hs]; exact hi), bc_get, str_toList']
      simp [List.getD, List.getElem?_eq_getElem hi]
/-- '[]byte(x)', x a text. -/
theorem at_conv {ops : Array Oper} {rest : List Oper} {o : Oper} {a : Act} {Q : Exit → Act → World → Prop} {w : World} {L : List (Array Obj)} {n : Nat} {l : List UInt8} (hgd : o.guard = none) (x : Operand)
    (ho : o.op = .convert 9 66 x) (hx : a.eval x = .string (str l)) (hl : l.length ≤ 1099511627776)
    (h : ∀ (ad : Option Addr) (cap : Nat) (m : Ext), (∀ k, RB (wd w (m.e :: L) k) (.slice ad l.length cap) l) → wpList Tryz.prog ops Q rest (a.put o.dst (.slice ad l.length cap)) (wd w (m.e :: L) m.n)) :
    wpList Tryz.prog ops Q (o :: rest) a (wd w L n) := by
  obtain ⟨ad, cap, m, hrun, hrb⟩ := run_conv (wd w L n) l hl
  refine wpList_plain hgd fun K hK' => ?_
  have h2 := h ad cap m (fun k => hrb.more ⟨#[], k, by rw [wd_plus]; rw [show plus (wd w (m.e :: L) m.n) #[] k = wd w (#[] :: m.e :: L) k from rfl, wd_empty]⟩)
  unfold Oper.wp
  simp [execOp, ho, hx, hrun, Result.andThen]
  exact hK' _ _ h2
end Go.Proofs.YtmbmibinnjfbdaaGreat
