/- dump: the reference's Batch. -/
import Derived.Test.YtejokhgabcldhaaDoorNL
import Derived.Test.YtejokhgabcldhaaDoorNJ
namespace Go.Proofs.YtejokhgabcldhaaDoor
open Go.ChangeShapes Go.WideShapes Go.ChangeAt Go.RowKit
set_option linter.unusedVariables false
set_option linter.unusedSimpArgs false

theorem joinC_snoc (c : UInt8) : ∀ (ws : List (List UInt8)) (x : List UInt8), ws ≠ [] → joinC c (ws ++ [x]) = joinC c ws ++ [c] ++ x
  | [], x, h => absurd rfl h
  | [w], x, _ => by rw [List.singleton_append, joinC_cons c w (by simp)]; simp [joinC]
  | w :: v :: ws, x, _ => by
    rw [List.cons_append, joinC_cons c w (by simp), joinC_snoc c (v :: ws) x (by simp), joinC_cons c w (by simp)]
    simp
/-- A batch's six numbers. -/
def sixN (b : Bat) (n : Int) : List Int := [b.base, b.count, b.producer, b.epoch, b.seq, n]
def sixC (b : Bat) (n : Int) : Array Value := #[.int .i64 b.base, .int .i64 b.count, .int .i64 b.producer, .int .i64 b.epoch, .int .i64 b.seq, .int .i64 n]
theorem six_at {b : Bat} {n : Int} (hf : BatFit b) (hn : NumFit n) (k : Nat) (hk : k < 6) : ∃ v : Int, (sixC b n)[k]? = some (.int .i64 v) ∧ NumFit v ∧ joinC 32 ((firstWords b n).take (k + 2)) = joinC 32 ((firstWords b n).take (k + 1)) ++ [32] ++ digN v := by
  have hs : ∀ (k : Nat) (x : List UInt8), (firstWords b n)[k + 1]? = some x → joinC 32 ((firstWords b n).take (k + 2)) = joinC 32 ((firstWords b n).take (k + 1)) ++ [32] ++ x := fun k x hx => by
    rw [take_get _ (k + 1) x hx, joinC_snoc]
    simp [firstWords]
  match k, hk with
  | 0, _ => exact ⟨b.base, rfl, hf.h1, hs 0 _ rfl⟩
  | 1, _ => exact ⟨b.count, rfl, hf.h2, hs 1 _ rfl⟩
  | 2, _ => exact ⟨b.producer, rfl, hf.h3, hs 2 _ rfl⟩
  | 3, _ => exact ⟨b.epoch, rfl, hf.h4, hs 3 _ rfl⟩
  | 4, _ => exact ⟨b.seq, rfl, hf.h5, hs 4 _ rfl⟩
  | 5, _ => exact ⟨n, rfl, hn, hs 5 _ rfl⟩
theorem append3 (a b c : List UInt8) : a ++ b ++ c = (a ++ b) ++ c := rfl
set_option maxRecDepth 100000 in
set_option maxHeartbeats 3200000 in
theorem rbatch_any (b : Bat) (a : Option Addr) (cap : Nat) (w : World) (hr : RecsAt w a b.recs) (hl : b.recs.length ≤ maxLen) :
    Calls Tryd.prog 14 #[.agg #[.int .i64 b.base, .int .i64 b.count, .int .i64 b.producer, .int .i64 b.epoch, .int .i64 b.seq, .slice a b.recs.length cap]] w fun x w' => LinesRet w w' x (batLs b) := by
  have HR := Lib.hid hr
  have HC := Lib.hid (fun W (hm : More w W) => rcheck_bat b a cap W (hr.more hm) hl)
  by_cases hc : batCheck b = 0
  · obtain ⟨c1, c2, c3⟩ := batCheck_ok hc
    have h32 := (batNum_ok c1).2.2.2.2.2.2.2.2.2.2
    have HSIX := Lib.hid (fun k hk => six_at (b := b) (n := b.recs.length) (batFit_of c1) ⟨by omega, by omega⟩ k hk)
    have HLI := Lib.hid (fun (k : Nat) (r : Rec) (h : b.recs[k]? = some r) W (hm : More w W) => rline_in b a cap k r W (hr.more hm) h hl (recFit_of (chk_all _ _ _ c2 r (List.mem_of_getElem? h))))
    have HBL := Lib.hid (batLs_ok hc)
    have HBA := Lib.hid (fun k r h => batLines_at b k r h)
    have HLL := Lib.hid (batLines_len b)
    have HB0 := Lib.hid (show (batLines b).take 1 = [firstLine b b.recs.length] from rfl)
    have HFR := Lib.hid (fun (k : Nat) (h : k < b.recs.length) => (⟨_, List.getElem?_eq_getElem h⟩ : ∃ r, b.recs[k]? = some r))
    have HFW := Lib.hid (show (firstWords b b.recs.length).length = 7 from rfl)
    have HF1 := Lib.hid (show joinC 32 ((firstWords b b.recs.length).take 1) = [98, 97, 116, 99, 104] from rfl)
    rw [hc] at HC
    unfold firstLine at HB0
    obtain ⟨FW, hFW⟩ : ∃ FW, firstWords b b.recs.length = FW := ⟨_, rfl⟩
    rw [hFW] at HFW HF1 HB0 HSIX
    obtain ⟨M, hM⟩ : ∃ M, batLines b = M := ⟨_, rfl⟩
    rw [hM] at HBL HBA HLL HB0
    rw [HBL.out]
    obtain ⟨CC, hCC⟩ : ∃ CC, sixC b b.recs.length = CC := ⟨_, rfl⟩
    rw [hCC] at HSIX
    have HCC := Lib.hid hCC
    unfold sixC at HCC
    obtain ⟨base, count, producer, epoch, seq, recs⟩ := b
    dsimp only at *
    clear hr c1 c2 c3 hc hFW hM hCC
    unfold maxLen at hl
    refine calls_wd ?_
    go_enter Tryd.func14, Tryd.ntmps14
    go_wp2_with (first
      | (go_at_call 31; ((with_reducible refine (HC.out _ (more_wd _ _ _)).mono ?_); rintro e w1 ⟨rfl, x1, n1, rfl⟩)))
    go_loopw [5, 7] (fun s i wr => ∃ (k : Nat) (m : Ext) (G : List UInt8), k ≤ 6 ∧ i = .int .i64 k ∧ s = .string (str G) ∧ G.length ≤ 5 + 21 * k ∧ Hid (joinC 32 (FW.take (k + 1)) = G) ∧ wr = wd w [m.e, #[.cells CC 3], x1, bbox base count producer epoch seq a recs.length cap] m.n) (fun _ i _ => 6 - (intOf i).toNat)
    case atStart => exact ⟨0, ⟨#[], _⟩, [98, 97, 116, 99, 104], by decide, rfl, rfl, by decide, Lib.hid HF1.out, by rw [← HCC.out, wd_empty]⟩
    case round =>
      obtain ⟨k, m, G, hk, rfl, rfl, hGl, HG, rfl⟩ := hrel
      by_cases hlt : k < 6
      · obtain ⟨v, hv, hvf, hstep⟩ := HSIX.out k hlt
        have hvl := numFit_len hvf
        have HD := Lib.hid (fun W => rdig_any v hvf.a hvf.b W)
        rw [HG.out] at hstep
        obtain ⟨D, hD⟩ : ∃ D, digN v = D := ⟨_, rfl⟩
        rw [hD] at hvl HD hstep
        obtain ⟨Z, hZ⟩ : ∃ Z, G ++ [32] = Z := ⟨_, rfl⟩
        have lZ : Z.length = G.length + 1 := by rw [← hZ]; simp
        rw [hZ] at hstep
        obtain ⟨U, hU⟩ : ∃ U, Z ++ D = U := ⟨_, rfl⟩
        have lU : U.length = Z.length + D.length := by rw [← hU]; simp
        rw [hU] at hstep
        have HST := Lib.hid hstep
        have e1 := sadd' (P := Tryd.prog) hZ (by omega)
        have e2 := sadd' (P := Tryd.prog) hU (by omega)
        rw [show str [32] = { data := #[32] } from rfl] at e1
        clear hZ hU hstep hD hvf
        go_wp2_with (first
          | (go_at_call 32; ((with_reducible refine (HD.out _).mono ?_); rintro e w1 ⟨rfl, x2, n2, rfl⟩)))
        go_roundw
        case rel => exact ⟨k + 1, ⟨m.e ++ x2, n2⟩, U, by omega, by go_num, rfl, by omega, Lib.hid HST.out, by rw [wd_merge]⟩
        case measure => simp [intOf]; omega
      · have hk6 : k = 6 := by omega
        subst hk6
        have HGF := Lib.hid (show joinC 32 FW = G by rw [← HG.out, List.take_of_length_le (by rw [HFW.out]; omega)])
        rw [HGF.out] at HB0
        clear HG HGF hGl
        go_wp2
        go_loopw [8, 9] (fun v i wr => ∃ (k : Nat) (m' : Ext), k ≤ recs.length ∧ i = .int .i64 k ∧ wr = wd w [m'.e, m.e, #[.cells CC 3], x1, bbox base count producer epoch seq a recs.length cap] m'.n ∧ SRow w [m.e, #[.cells CC 3], x1, bbox base count producer epoch seq a recs.length cap] m'.e v (M.take (k + 1))) (fun _ i _ => recs.length - (intOf i).toNat)
        case atStart => exact ⟨0, ⟨_, _⟩, Nat.zero_le _, rfl, rfl, by rw [show M.take (0 + 1) = [G] from HB0.out]; exact srow_lit w _ G⟩
        case round =>
          obtain ⟨k, m2, hk, rfl, rfl, hrow⟩ := hrel
          have hGl : (M.take (k + 1)).length = k + 1 := by rw [List.length_take, HLL.out]; omega
          obtain ⟨G2, hG⟩ : ∃ G, M.take (k + 1) = G := ⟨_, rfl⟩
          rw [hG] at hrow hGl
          have HGL := Lib.hid hGl
          clear hGl
          have HRow := Lib.hid hrow
          obtain ⟨av, cv, rfl⟩ := rowIn_slice hrow
          clear hrow
          by_cases hlt : k < recs.length
          · obtain ⟨r, hx⟩ := HFR.out k hlt
            have HX := Lib.hid (HLI.out k r hx)
            have HG := Lib.hid (show M.take (k + 1 + 1) = G2 ++ [recLine r] by rw [← hG]; exact HBA.out k r hx)
            obtain ⟨F2, hF2⟩ : ∃ F2, recLine r = F2 := ⟨_, rfl⟩
            rw [hF2] at HX HG
            clear hF2 hx hG
            go_wp2_with (first
              | (go_at_call 16; ((with_reducible refine (HX.out _ (more_wd _ _ _)).mono ?_); rintro e w1 ⟨rfl, x3, n3, rfl⟩; rw [wd_plus, wd_merge]; have HRM : Hid (SRow w [m.e, #[.cells CC 3], x1, bbox base count producer epoch seq a recs.length cap] (m2.e ++ x3) (.slice av G2.length cv) G2) := Lib.hid (rowIn_more HRow.out x3); generalize m2.e ++ x3 = M3 at HRM ⊢))
              | (at_builtin; refine at_append_text (L := [m.e, #[.cells CC 3], x1, bbox base count producer epoch seq a recs.length cap]) (l := G2) (v := .slice av G2.length cv) (m := M3) rfl _ _ rfl rfl HRM.out F2 _ rfl _ (by have := HGL.out; omega) ?_; intro v' m' hr'; obtain ⟨a5, c5, rfl⟩ := rowIn_slice hr'; have HR2 := Lib.hid hr'; clear hr'))
            go_roundw
            case rel => (repeat apply Exists.intro); exact ⟨⟨k + 1, m', by omega, by go_num, rfl, by rw [HG.out, show G2.length + 1 = (G2 ++ [F2]).length by simp]; exact HR2.out⟩, rfl⟩
            case measure => simp [intOf]; omega
          · have hke : k = recs.length := by omega
            have hGM : G2 = M := by rw [← hG]; exact List.take_of_length_le (by rw [HLL.out]; omega)
            subst hGM
            clear hG
            have HSR := Lib.hid (trow_of_row (cells := strCell) (k := m2.n) strCell_len rfl HRow.out)
            go_wp2
            go_ret2
            exact ⟨av, cv, rfl, HSR.out.1, HSR.out.2, more_wd _ _ _⟩
  · have HBL := Lib.hid (batLs_no hc)
    obtain ⟨E, hE⟩ : ∃ E, batCheck b = E := ⟨_, rfl⟩
    rw [hE] at HC HBL hc
    rw [HBL.out]
    obtain ⟨base, count, producer, epoch, seq, recs⟩ := b
    dsimp only at *
    clear hr hE
    unfold maxLen at hl
    have hc' : ((E == 0) = false) := by rw [beq_eq_false_iff_ne]; exact hc
    have hc2 : (E != 0) = true := by rw [bne_iff_ne]; exact hc
    clear hc
    refine calls_wd ?_
    go_enter Tryd.func14, Tryd.ntmps14
    go_wp2_with (first
      | (go_at_call 31; ((with_reducible refine (HC.out _ (more_wd _ _ _)).mono ?_); rintro e w1 ⟨rfl, x1, n1, rfl⟩)))
    go_ret2
    exact ⟨none, 0, rfl, TRow.nil _, Nat.le_refl _, more_wd _ _ _⟩
end Go.Proofs.YtejokhgabcldhaaDoor
