/- dump: Batch, both. -/
import Derived.Test.YtejokhgabcldhaaDoorNJ
import Derived.Test.YtejokhgabcldhaaDoorNK
import Derived.Test.YtejokhgabcldhaaDoorMP
import Derived.Test.YtejokhgabcldhaaDoorNN
namespace Go.Proofs.YtejokhgabcldhaaDoor
open Go.ChangeShapes Go.WideShapes Go.ChangeAt Go.RowKit
set_option linter.unusedVariables false
set_option linter.unusedSimpArgs false

theorem info_str : (Tryd.prog.info? 9).map (fun i => (i.zero, i.size, i.bytes)) = some (some (.string ByteArray.empty), 1, 16) := by kernel_rfl
/-- The texts l lie in the piece m above L, behind the slice v. -/
abbrev SRow (w : World) (L : List (Array Obj)) (m : Array Obj) (v : Value) (l : List (List UInt8)) : Prop := rowIn w.heap.size (shape L) m 9 1 v l.length (l.flatMap strCell)
theorem flat_str_len (l : List (List UInt8)) : (l.flatMap strCell).length = l.length := by rw [flat_len strCell 1 strCell_len]; omega
theorem row_strs {B : Nat} {S : List Nat} {e : Array Obj} {v : Value} {n : Nat} {xs : List Value} (h : rowIn B S e 9 1 v n xs) (l : List (List UInt8)) (hx : xs = l.flatMap strCell) : rowIn B S e 9 1 v l.length (l.flatMap strCell) := by
  subst hx
  have h1 := h.1
  rw [flat_str_len, Nat.mul_one] at h1
  subst h1; exact h
section
variable {ops : Array Oper} {rest : List Oper} {o : Oper} {a : Act} {Q : Exit → Act → World → Prop} {w : World} {L : List (Array Obj)} {n : Nat} {m m1 : Array Obj} {v u : Value} {l : List (List UInt8)}
/-- 'append(v, x)', x a text. -/
theorem at_append_text (hgd : o.guard = none) (s x : Operand) (ho : o.op = .call { callee := .builtin .append, args := #[s, x], argTypes := #[29, 29] })
    (hs : a.eval s = v) (hrow : SRow w L m v l) (c : List UInt8) (k : Nat) (hx : a.eval x = .slice (some ⟨sz w.heap.size (m.size :: shape L), 0, none⟩) 1 k) (t' : TypeId) (hlen : l.length + 1 ≤ 1000000)
    (h : ∀ (v' : Value) (m' : Ext), SRow w L m'.e v' (l ++ [c]) → wpList Tryd.prog ops Q rest (a.put o.dst v') (wd w (m'.e :: L) m'.n)) :
    wpList Tryd.prog ops Q (o :: rest) a (wd w (#[.cells #[.string (str c)] t'] :: m :: L) n) := by
  obtain ⟨i0, hi, hz0, hz1, hz2⟩ := info_parts info_str
  refine wp_append_row hgd s x 29 ho 9 i0 _ 1 16 Tryd.underlying29 hi hz0 hz1 hz2 rfl (by decide) v _ _ hs hrow _ t' 1 k hx rfl (by simp [Value.oneCell']) (by unfold maxLen; omega) (by omega) ?_
  intro v' m' hr
  exact h v' m' (row_strs hr _ (by simp [strCell]))
end
theorem srow_lit (w : World) (L : List (Array Obj)) (c : List UInt8) : SRow w L #[.cells #[.string (str c)] 9] (.slice (some ⟨sz w.heap.size (shape L), 0, none⟩) 1 1) [c] :=
  rowIn_lit w.heap.size (shape L) _ 9 1 1 (by decide) rfl
/-- Lines and an error, handed back. -/
structure LinesRet (w w' : World) (x : Ending) (g : List (List UInt8) × Int) : Prop where
  out : ∃ (a : Option Addr) (cap : Nat), x = .returned (.tuple #[.slice a g.1.length cap, .int .i64 g.2]) ∧ TRow strCell 9 w' a g.1 ∧ g.1.length ≤ cap ∧ More w w'
theorem batLs_no {b : Bat} (h : batCheck b ≠ 0) : batLs b = ([], batCheck b) := by unfold batLs; rw [if_pos h]
theorem batLs_ok {b : Bat} (h : batCheck b = 0) : batLs b = (batLines b, 0) := by unfold batLs; rw [if_neg (by simp [h])]
theorem batLines_at (b : Bat) (k : Nat) (r : Rec) (h : b.recs[k]? = some r) : (batLines b).take (k + 2) = (batLines b).take (k + 1) ++ [recLine r] := by
  refine take_get _ _ _ ?_
  unfold batLines
  rw [List.getElem?_cons_succ, List.getElem?_map, h]; rfl
set_option maxRecDepth 100000 in
set_option maxHeartbeats 3200000 in
theorem dbatch_any (b : Bat) (a : Option Addr) (cap : Nat) (w : World) (hr : RecsAt w a b.recs) (hl : b.recs.length ≤ maxLen) :
    Calls Tryd.prog 13 #[.agg #[.int .i64 b.base, .int .i64 b.count, .int .i64 b.producer, .int .i64 b.epoch, .int .i64 b.seq, .slice a b.recs.length cap]] w fun x w' => LinesRet w w' x (batLs b) := by
  have HR := Lib.hid hr
  have HC := Lib.hid (fun W (hm : More w W) => check_bat b a cap W (hr.more hm) hl)
  by_cases hc : batCheck b = 0
  · obtain ⟨c1, c2, c3⟩ := batCheck_ok hc
    have h32 := (batNum_ok c1).2.2.2.2.2.2.2.2.2.2
    have HF := Lib.hid (fun W => first_any b a cap b.recs.length W hl (batFit_of c1) ⟨by omega, by omega⟩)
    have HLI := Lib.hid (fun (k : Nat) (r : Rec) (h : b.recs[k]? = some r) W (hm : More w W) => line_in b a cap k r W (hr.more hm) h hl (recFit_of (chk_all _ _ _ c2 r (List.mem_of_getElem? h))))
    have HBL := Lib.hid (batLs_ok hc)
    have HBA := Lib.hid (fun k r h => batLines_at b k r h)
    have HLL := Lib.hid (batLines_len b)
    have HB0 := Lib.hid (show (batLines b).take 1 = [firstLine b b.recs.length] from rfl)
    have HFR := Lib.hid (fun (k : Nat) (h : k < b.recs.length) => (⟨_, List.getElem?_eq_getElem h⟩ : ∃ r, b.recs[k]? = some r))
    rw [hc] at HC
    obtain ⟨F, hF⟩ : ∃ F, firstLine b b.recs.length = F := ⟨_, rfl⟩
    rw [hF] at HF HB0
    obtain ⟨M, hM⟩ : ∃ M, batLines b = M := ⟨_, rfl⟩
    rw [hM] at HBL HBA HLL HB0
    rw [HBL.out]
    obtain ⟨base, count, producer, epoch, seq, recs⟩ := b
    dsimp only at *
    clear hr c1 c2 c3 hc hF hM
    unfold maxLen at hl
    refine calls_wd ?_
    go_enter Tryd.func13, Tryd.ntmps13
    go_wp2_with (first
      | (go_at_call 29; ((with_reducible refine (HC.out _ (more_wd _ _ _)).mono ?_); rintro e w1 ⟨rfl, x1, n1, rfl⟩))
      | (go_at_call 30; ((with_reducible refine (HF.out _).mono ?_); rintro e w1 ⟨rfl, x2, n2, rfl⟩)))
    go_loopw [5, 21] (fun v i wr => ∃ (k : Nat) (m : Ext), k ≤ recs.length ∧ i = .int .i64 k ∧ wr = wd w [m.e, bbox base count producer epoch seq a recs.length cap] m.n ∧ SRow w [bbox base count producer epoch seq a recs.length cap] m.e v (M.take (k + 1))) (fun _ i _ => recs.length - (intOf i).toNat)
    case atStart => exact ⟨0, ⟨_, n2⟩, Nat.zero_le _, rfl, by rw [wd_merge3], by rw [show M.take (0 + 1) = [F] from HB0.out]; exact rowIn_under (rowIn_under (srow_lit w [x2, x1, bbox base count producer epoch seq a recs.length cap] F))⟩
    case round =>
      obtain ⟨k, m, hk, rfl, rfl, hrow⟩ := hrel
      have hGl : (M.take (k + 1)).length = k + 1 := by rw [List.length_take, HLL.out]; omega
      obtain ⟨G, hG⟩ : ∃ G, M.take (k + 1) = G := ⟨_, rfl⟩
      rw [hG] at hrow hGl
      have HGL := Lib.hid hGl
      clear hGl
      have HRow := Lib.hid hrow
      obtain ⟨av, cv, rfl⟩ := rowIn_slice hrow
      clear hrow
      by_cases hlt : k < recs.length
      · obtain ⟨r, hx⟩ := HFR.out k hlt
        have HX := Lib.hid (HLI.out k r hx)
        have HG := Lib.hid (show M.take (k + 1 + 1) = G ++ [recLine r] by rw [← hG]; exact HBA.out k r hx)
        obtain ⟨F2, hF2⟩ : ∃ F2, recLine r = F2 := ⟨_, rfl⟩
        rw [hF2] at HX HG
        clear hF2 hx hG
        go_wp2_with (first
          | (go_at_call 15; ((with_reducible refine (HX.out _ (more_wd _ _ _)).mono ?_); rintro e w1 ⟨rfl, x3, n3, rfl⟩; rw [wd_plus, wd_merge]; have HRM : Hid (SRow w [bbox base count producer epoch seq a recs.length cap] (m.e ++ x3) (.slice av G.length cv) G) := Lib.hid (rowIn_more HRow.out x3); generalize m.e ++ x3 = M3 at HRM ⊢))
          | (at_builtin; refine at_append_text (L := [bbox base count producer epoch seq a recs.length cap]) (l := G) (v := .slice av G.length cv) (m := M3) rfl _ _ rfl rfl HRM.out F2 _ rfl _ (by have := HGL.out; omega) ?_; intro v' m' hr'; obtain ⟨a5, c5, rfl⟩ := rowIn_slice hr'; have HR2 := Lib.hid hr'; clear hr'))
        go_roundw
        case rel => exact ⟨k + 1, m', by omega, by go_num, rfl, by rw [HG.out, show G.length + 1 = (G ++ [F2]).length by simp]; exact HR2.out⟩
        case measure => simp [intOf]; omega
      · have hke : k = recs.length := by omega
        have hGM : G = M := by rw [← hG]; exact List.take_of_length_le (by rw [HLL.out]; omega)
        subst hGM
        clear hG
        have HSR := Lib.hid (trow_of_row (cells := strCell) (k := m.n) strCell_len rfl HRow.out)
        go_wp2
        go_ret2
        exact ⟨av, cv, rfl, HSR.out.1, HSR.out.2, more_wd _ _ _⟩
  · have HBL := Lib.hid (batLs_no hc)
    obtain ⟨E, hE⟩ : ∃ E, batCheck b = E := ⟨_, rfl⟩
    rw [hE] at HC HBL hc
    rw [HBL.out]
    obtain ⟨base, count, producer, epoch, seq, recs⟩ := b
    dsimp only at *
    clear hr hE
    unfold maxLen at hl
    have hc' : ((E == 0) = false) := by rw [beq_eq_false_iff_ne]; exact hc
    have hc2 : (E != 0) = true := by rw [bne_iff_ne]; exact hc
    clear hc
    refine calls_wd ?_
    go_enter Tryd.func13, Tryd.ntmps13
    go_wp2_with (first
      | (go_at_call 29; ((with_reducible refine (HC.out _ (more_wd _ _ _)).mono ?_); rintro e w1 ⟨rfl, x1, n1, rfl⟩)))
    go_ret2
    exact ⟨none, 0, rfl, TRow.nil _, Nat.le_refl _, more_wd _ _ _⟩
end Go.Proofs.YtejokhgabcldhaaDoor
