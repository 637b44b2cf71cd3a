/- dump: may. -/
import Derived.Test.YtejokhgabcldhaaDoorNR
import Derived.Test.YtejokhgabcldhaaDoorNA
import Derived.Test.YtejokhgabcldhaaDoorNJ
import Derived.Deep.LoopGhost
namespace Go.Proofs.YtejokhgabcldhaaDoor
open Go.ChangeShapes Go.WideShapes Go.ChangeAt Go.RowKit
set_option linter.unusedVariables false
set_option linter.unusedSimpArgs false

/-- The last record's delta has room above it. -/
def NextFit (cur : List Rec) : Prop := ∀ r, cur.getLast? = some r → -1 ≤ r.delta ∧ r.delta ≤ 4611686018427387910 + cur.length
theorem nextFit_of {cur : List Rec} (h : ∀ r ∈ cur, NumFit r.delta) : NextFit cur := fun r hr => by
  have := h r (List.mem_of_getLast? hr)
  have h1 := this.a
  have h2 := this.b
  omega
theorem nextFit_step {cur : List Rec} (h : NextFit cur) : NextFit (cur ++ [smallR (nextD cur)]) := fun r hr => by
  rw [List.getLast?_concat] at hr
  obtain rfl := Option.some.inj hr
  rw [List.length_append]
  show -1 ≤ nextD cur ∧ nextD cur ≤ _
  unfold nextD
  cases hc : cur.getLast? with
  | none => simp; omega
  | some x => have := h x hc; simp; omega
theorem ext_step {rs cur : List Rec} {N : Nat} (h : extR rs (N - rs.length) = extR cur (N - cur.length)) (hlt : cur.length < N) : extR rs (N - rs.length) = extR (cur ++ [smallR (nextD cur)]) (N - (cur ++ [smallR (nextD cur)]).length) := by
  rw [h, List.length_append, List.length_singleton, show N - cur.length = (N - (cur.length + 1)) + 1 by omega, extR]
theorem may_no {b : Bat} {n : Int} (h : ¬ (0 ≤ n ∧ n ≤ b.count ∧ b.count ≤ 32)) : mayB b n = false := by unfold mayB; simp only [h, decide_false, Bool.false_and]
theorem may_at {b : Bat} {n : Int} (h : 0 ≤ n ∧ n ≤ b.count ∧ b.count ≤ 32) {cur : List Rec} (hc : extR b.recs (n.toNat - b.recs.length) = cur) : mayB b n = decide (batCheck (b.put cur) = 0) := by
  unfold mayB; rw [hc]; simp only [h, and_self, decide_true, Bool.true_and]
theorem last_at {cur : List Rec} {j : Nat} (hj : cur.length = j + 1) : ∃ r, cur[j]? = some r ∧ cur.getLast? = some r := by
  refine ⟨cur[j]'(by omega), List.getElem?_eq_getElem (by omega), ?_⟩
  rw [List.getLast?_eq_getElem?, show cur.length - 1 = j by omega]
  exact List.getElem?_eq_getElem (by omega)
set_option maxRecDepth 100000 in
set_option maxHeartbeats 3200000 in
theorem may_any (b : Bat) (a : Option Addr) (cap : Nat) (n : Int) (w : World) (hr : RecsAt w a b.recs) (hl : b.recs.length ≤ 32) (hd : ∀ r ∈ b.recs, NumFit r.delta) :
    Calls Tryd.prog 55 #[.agg #[.int .i64 b.base, .int .i64 b.count, .int .i64 b.producer, .int .i64 b.epoch, .int .i64 b.seq, .slice a b.recs.length cap], .int .i64 n] w fun x w' => x = .returned (.bool (mayB b n)) ∧ More w w' := by
  by_cases hin : 0 ≤ n ∧ n ≤ b.count ∧ b.count ≤ 32
  · have HM := Lib.hid (fun (cur : List Rec) (hc : extR b.recs (n.toNat - b.recs.length) = cur) => may_at (b := b) (n := n) hin hc)
    have HR := Lib.hid hr
    have HN := Lib.hid (nextFit_of hd)
    have HB := Lib.hid (fun (cur : List Rec) (a : Option Addr) (cap : Nat) W (h : RecsAt W a cur) (hl : cur.length ≤ maxLen) => check_bat (b.put cur) a cap W h hl)
    obtain ⟨i0, hi, hz0, hz1, hz2⟩ := info_parts info_recs
    obtain ⟨base, count, producer, epoch, seq, recs⟩ := b
    unfold Bat.put at HM HB
    dsimp only at *
    obtain ⟨N, rfl⟩ : ∃ N : Nat, n = N := ⟨n.toNat, by omega⟩
    rw [Int.toNat_natCast] at HM
    obtain ⟨hin0, hin1, hin2⟩ := hin
    have hN : N ≤ 32 := by omega
    have HCL := Lib.hid (fun W hm => clone_recs a cap recs W (HR.out.more (w' := W) hm) (by omega))
    obtain ⟨R, hR⟩ : ∃ R, mayB ⟨base, count, producer, epoch, seq, recs⟩ N = R := ⟨_, rfl⟩
    rw [hR] at HM ⊢
    clear hr hd hR
    refine calls_wd ?_
    go_enter Tryd.func55, Tryd.ntmps55
    go_wp2_with (first | (go_at_call 70; ((with_reducible refine (HCL.out _ (more_wd _ _ _)).mono ?_); rintro e w1 ⟨x0, rfl, x1⟩; obtain ⟨m1, rfl, hr1⟩ := x1.wd; clear x1; obtain ⟨a1, c1, rfl⟩ := rowIn_slice hr1)))
    go_loopg [] (N - recs.length) (fun g wr => ∃ (cur : List Rec) (m : Ext) (a' : Option Addr) (c' : Nat), N - cur.length ≤ g ∧ cur.length ≤ 32 ∧ Hid (extR recs (N - recs.length) = extR cur (N - cur.length)) ∧ Hid (NextFit cur) ∧ Hid (rowIn w.heap.size [1] m.e 71 6 (.slice a' cur.length c') cur.length (cur.flatMap recCells)) ∧ wr = wd w [m.e, bbox base count producer epoch seq a' cur.length c'] m.n)
    case atStart => exact ⟨recs, m1, a1, c1, Nat.le_refl _, hl, Lib.hid rfl, Lib.hid HN.out, Lib.hid hr1, rfl⟩
    case round =>
      clear hr1
      obtain ⟨cur, m, a', c', hg, hcl, HE, HF, HROW, rfl⟩ := hrel
      have HRA := Lib.hid (fun n => (RowAt.of_rd (cap := c') (rdrow_of_row (L := [bbox base count producer epoch seq a' cur.length c']) (k := n) HROW.out) : RecsAt (wd w [m.e, bbox base count producer epoch seq a' cur.length c'] n) a' cur))
      by_cases hlt : cur.length < N
      · have HES := Lib.hid (ext_step HE.out hlt)
        have HFS := Lib.hid (nextFit_step HF.out)
        by_cases h0 : cur = []
        · subst h0
          rw [show nextD [] = 0 from rfl] at HES HFS
          go_wp2_with (first | (at_builtin; refine wp_append_row (L := [bbox base count producer epoch seq a' _ c']) rfl _ _ _ rfl 71 i0 _ 6 64 Tryd.underlying33 hi hz0 hz1 hz2 rfl (by decide) (.slice a' _ c') _ _ rfl HROW.out _ _ 1 1 rfl rfl (by simp [Value.oneCell']) (by unfold maxLen; omega) (by omega) ?_; intro v9 m9 hr9; obtain ⟨a9, c9, rfl⟩ := rowIn_slice hr9; have HR9 := Lib.hid hr9; clear hr9))
          go_roundg (N - 1)
          case measure => simp at hlt hg; omega
          case rel => exact ⟨[smallR 0], m9, a9, c9, by simp, by simp, HES, HFS, HR9, rfl⟩
        · obtain ⟨j, hj⟩ : ∃ j, cur.length = j + 1 := ⟨cur.length - 1, by have := List.length_pos_iff.2 h0; omega⟩
          obtain ⟨r, hrj, hlast⟩ := last_at hj
          obtain ⟨hf1, hf2⟩ := HF.out r hlast
          have HZ := Lib.hid (show nextD cur = r.delta + 1 by unfold nextD; rw [hlast])
          have HLN := Lib.hid (show (cur ++ [smallR (r.delta + 1)]).length = j + 1 + 1 by rw [List.length_append, hj]; rfl)
          rw [hj] at hf2 hcl hlt HROW hg
          have hRA := HRA.out m.n
          rw [hj] at hRA ⊢
          rw [HZ.out] at HES HFS
          obtain ⟨bb, off, rfl, hb, g0, g1, g2, g3, g4, g5⟩ := recs_at hRA j r hrj
          clear hRA HRA hj hrj hlast HZ
          obtain ⟨d, t, ky, key, dd, val⟩ := r
          dsimp only at *
          go_wp2_with (first | (at_builtin; refine wp_append_row (L := [bbox base count producer epoch seq _ _ c']) rfl _ _ _ rfl 71 i0 _ 6 64 Tryd.underlying33 hi hz0 hz1 hz2 rfl (by decide) (.slice _ _ c') _ _ rfl HROW.out _ _ 1 1 rfl rfl (by simp [Value.oneCell']) (by unfold maxLen; omega) (by omega) ?_; intro v9 m9 hr9; obtain ⟨a9, c9, rfl⟩ := rowIn_slice hr9; have HR9 := Lib.hid hr9; clear hr9))
          go_roundg (N - j - 2)
          case measure => omega
          case rel => exact ⟨cur ++ [smallR (d + 1)], m9, a9, c9, by rw [HLN.out]; omega, by rw [HLN.out]; omega, HES, HFS, Lib.hid (by rw [HLN.out, List.flatMap_append]; exact HR9.out), by rw [HLN.out]⟩
      · have HEQ := Lib.hid (HM.out cur (by rw [HE.out, show N - cur.length = 0 by omega]; rfl))
        have HCK := Lib.hid (fun W (hm : More (wd w [m.e, bbox base count producer epoch seq a' cur.length c'] m.n) W) => HB.out cur a' c' W ((HRA.out m.n).more hm) (by unfold maxLen; omega))
        obtain ⟨E, hE⟩ : ∃ E, batCheck ⟨base, count, producer, epoch, seq, cur⟩ = E := ⟨_, rfl⟩
        rw [hE] at HEQ HCK
        clear hE
        go_wp2_with (first | (go_at_call 29; ((with_reducible refine (HCK.out _ (.refl _)).mono ?_); rintro e w1 ⟨rfl, x1, n1, rfl⟩)))
        go_ret
        exact ⟨by rw [HEQ.out]; rfl, more_wd _ _ _⟩
  · have HX := Lib.hid (may_no hin)
    obtain ⟨base, count, producer, epoch, seq, recs⟩ := b
    dsimp only at *
    clear hr hd
    by_cases h1 : n < 0
    · refine calls_wd ?_
      go_enter Tryd.func55, Tryd.ntmps55
      go_wp2
      go_ret
      exact ⟨by rw [HX.out]; rfl, more_wd _ _ _⟩
    · by_cases h2 : count < n
      · refine calls_wd ?_
        go_enter Tryd.func55, Tryd.ntmps55
        go_wp2
        go_ret
        exact ⟨by rw [HX.out]; rfl, more_wd _ _ _⟩
      · have h3 : (32 : Int) < count := by omega
        refine calls_wd ?_
        go_enter Tryd.func55, Tryd.ntmps55
        go_wp2
        go_ret
        exact ⟨by rw [HX.out]; rfl, more_wd _ _ _⟩
end Go.Proofs.YtejokhgabcldhaaDoor
