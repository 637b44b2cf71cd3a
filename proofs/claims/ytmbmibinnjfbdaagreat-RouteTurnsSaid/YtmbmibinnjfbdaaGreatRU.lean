/- Law 37: RouteTurns' walk. -/
import Derived.Test.YtmbmibinnjfbdaaGreatRC
import Derived.Test.YtmbmibinnjfbdaaGreatRP
import Derived.Test.YtmbmibinnjfbdaaGreatMF
namespace Go.Proofs.YtmbmibinnjfbdaaGreat
open Go.ChangeShapes Go.WideShapes Go.ChangeAt Go.RowKit
set_option linter.unusedVariables false
set_option linter.unusedSimpArgs false
theorem numF_get (x : List Rec) (i : Nat) (r : Rec) (h : x[i]? = some r) : (numF x)[i]? = some (numR r i) := by simp [numF, h]
theorem send_nil (a : Option Addr) (n cap : Nat) (turn : Int) (w : World) : Calls Tryz.prog 8 #[.pointer none, .string ⟨#[97]⟩, .slice a n cap, .int .i64 turn] w fun e w' => e = .returned (.tuple #[.int .i64 0, .int .i64 turn, .int .i64 1]) ∧ More w w' := by
  refine calls_wd ?_
  go_enter Tryz.func8, Tryz.ntmps8
  go_wp2
  refine bodyPost_ret (v := .tuple #[.int .i64 0, .int .i64 turn, .int .i64 1]) (by simp [results, Tryz.results8, go_sem]) rfl ⟨rfl, more_wd _ _ _⟩
theorem recs_take {w : World} {a : Option Addr} {l : List Rec} (h : RecsAt w a l) (k : Nat) : RecsAt w a (l.take k) := by
  refine ⟨fun hne => ?_⟩
  obtain ⟨b, off, ha, hb, hc⟩ := h.out (by intro h0; subst h0; simp at hne)
  refine ⟨b, off, ha, hb, fun i hi => ?_⟩
  have hl : (l.take k).length ≤ l.length := by rw [List.length_take]; omega
  have hi2 : i < l.length * 6 := by have := Nat.mul_le_mul_right 6 hl; omega
  rw [hc i hi2]
  have e := flat_at recCells 6 recCells_len'
  obtain ⟨x, hx⟩ : ∃ x, (l.take k)[i / 6]? = some x := ⟨_, List.getElem?_eq_getElem (by omega)⟩
  have hx2 : l[i / 6]? = some x := by
    rw [List.getElem?_take] at hx
    split at hx
    · exact hx
    · cases hx
  have h6 : i = (i / 6) * 6 + i % 6 := by omega
  rw [h6, e l (i / 6) x (i % 6) hx2 (by omega), e (l.take k) (i / 6) x (i % 6) hx (by omega)]
theorem recs_drop {w : World} {b off : Nat} {l : List Rec} (hb : b < w.heap.size) (hc : ∀ i, i < l.length * 6 → w.cell? ⟨b, off + i, none⟩ = (l.flatMap recCells)[i]?) (k : Nat) : RecsAt w (some ⟨b, off + k * 6, none⟩) (l.drop k) := by
  refine ⟨fun hne => ⟨b, off + k * 6, rfl, hb, fun i hi => ?_⟩⟩
  rw [List.length_drop] at hi
  have hi2 : k * 6 + i < l.length * 6 := by
    have : (l.length - k) * 6 + k * 6 = l.length * 6 := by rw [← Nat.add_mul, Nat.sub_add_cancel]; omega
    omega
  rw [Nat.add_assoc, hc _ hi2]
  obtain ⟨x, hx⟩ : ∃ x, l[k + i / 6]? = some x := ⟨_, List.getElem?_eq_getElem (by omega)⟩
  have hx2 : (l.drop k)[i / 6]? = some x := by rw [List.getElem?_drop]; exact hx
  have h6 : i = (i / 6) * 6 + i % 6 := by omega
  have h7 : k * 6 + i = (k + i / 6) * 6 + i % 6 := by rw [Nat.add_mul]; omega
  rw [h7, flat_at recCells 6 recCells_len' l _ x (i % 6) hx (by omega)]
  conv => rhs; rw [h6]
  rw [flat_at recCells 6 recCells_len' _ _ x (i % 6) hx2 (by omega)]
theorem sz_rec : ∀ w, (Go.sizeOf 30).run Tryz.prog w = .ok 6 w := fun w => by
  obtain ⟨i0, hi, hz0, hz1, hz2⟩ := info_parts info_rec6
  simp [Go.sizeOf, typeInfo, hi, hz1]
theorem slice_to {w : World} {a : Option Addr} {l : List Rec} (h : RecsAt w a l) (cap K : Nat) (hK : K ≤ l.length) (hlc : l.length ≤ cap) :
    ∃ a', (∀ W, (Instr.slice 22 (.slice a l.length cap) none (some (.int .i64 (K : Int))) none).run Tryz.prog W = .ok (.slice a' K cap) W) ∧ RecsAt w a' (l.take K) := by
  have ht' : Tryz.prog.underlying 22 = some (.slice (Tryz.prog.elem 22)) := by simp [Program.elem, Tryz.underlying22]
  have he : Tryz.prog.elem 22 = 30 := by simp [Program.elem, Tryz.underlying22]
  refine ⟨if cap = 0 then a else a.map (·.add (0 * 6)), fun W => ?_, ?_⟩
  · rw [run_slice_h W 22 a l.length cap ht' .i64 _ (by omega) (by omega), he, sz_rec]
    simp [Result.andThen, sliced]
  · refine ⟨fun hne => ?_⟩
    obtain ⟨b, off, rfl, hb, hc⟩ := (recs_take h K).out hne
    refine ⟨b, off, ?_, hb, hc⟩
    split
    · rfl
    · simp [Addr.add]
theorem slice_from {w : World} {a : Option Addr} {l : List Rec} (h : RecsAt w a l) (cap K : Nat) (hK : K ≤ l.length) (hlc : l.length ≤ cap) :
    ∃ a' c', (∀ W, (Instr.slice 22 (.slice a l.length cap) (some (.int .i64 (K : Int))) none none).run Tryz.prog W = .ok (.slice a' (l.length - K) c') W) ∧ RecsAt w a' (l.drop K) := by
  have ht' : Tryz.prog.underlying 22 = some (.slice (Tryz.prog.elem 22)) := by simp [Program.elem, Tryz.underlying22]
  have he : Tryz.prog.elem 22 = 30 := by simp [Program.elem, Tryz.underlying22]
  refine ⟨if cap = K then a else a.map (·.add (K * 6)), cap - K, fun W => ?_, ?_⟩
  · rw [run_slice_l W 22 a l.length cap ht' .i64 _ (by omega) (by omega), he, sz_rec]
    simp [Result.andThen, sliced]
  · by_cases hne : l.drop K = []
    · rw [hne]; exact RowAt.nil _
    · have hlk : K < l.length := by
        by_cases h1 : K < l.length
        · exact h1
        · exact absurd (List.drop_eq_nil_of_le (by omega)) hne
      obtain ⟨b, off, rfl, hb, hc⟩ := h.out (by intro h0; subst h0; simp at hlk)
      rw [if_neg (by omega)]
      show RecsAt w (some ((⟨b, off, none⟩ : Addr).add (K * 6))) _
      rw [addr_add]
      exact recs_drop hb hc K
set_option maxRecDepth 100000 in
set_option maxHeartbeats 16000000 in
theorem turns_any (hawake : ∀ W, Calls Tryz.prog 5 #[] W fun e w' => e = .returned (.bool true) ∧ More W w') (a : Option Addr) (cap : Nat) (l : List Rec) (n0 n1 cut : Int) (w : World) (h : RecsAt w a l) (hl : l.length ≤ maxLen) (hlc : l.length ≤ cap) (hk : ∀ x ∈ l, x.key.length ≤ maxLen ∧ x.value.length ≤ maxLen)
    (hc0 : 0 ≤ cut) (hc1 : cut < 256) :
    Calls Tryz.prog 3 #[.slice a l.length cap, .agg #[.int .i64 n0, .int .i64 n1], .int .u8 cut] w fun e w' => e = .returned (.bool true) ∧ More w w' := by
  have HAW := Lib.hid hawake
  have HLI := Lib.hid (fun W hm => light_any a cap l W (h.more (w' := W) hm) hl hk)
  have HA := Lib.hid h
  clear h hk hawake
  unfold maxLen at hl
  refine calls_wd ?_
  go_enter Tryz.func3, Tryz.ntmps3
  go_wp2_with (first
    | (go_at_call 4; ((with_reducible refine (HLI.out _ (more_wd _ _ _)).mono ?_); rintro e w2 hbr; obtain ⟨bl, rfl, ⟨x9, n9, rfl⟩, hyes⟩ := hbr.out; cases bl <;> (try have h100 := (hyes rfl).1)))
    | (go_at_call 5; ((with_reducible refine (HAW.out _).mono ?_); rintro e w1 ⟨rfl, x1, n1, rfl⟩)))
  · go_ret
    exact ⟨rfl, more_wd _ _ _⟩
  · obtain ⟨_, hkeys⟩ := hyes trivial
    have HKE := Lib.hid hkeys
    obtain ⟨K, hK⟩ : ∃ K : Nat, cut % ((l.length : Int) + 1) = (K : Int) := ⟨(cut % ((l.length : Int) + 1)).toNat, by have := Int.emod_nonneg cut (show (l.length : Int) + 1 ≠ 0 by omega); omega⟩
    have hKl : K ≤ l.length := by have := Int.emod_lt_of_pos cut (show 0 < (l.length : Int) + 1 by omega); omega
    rw [hK]
    have HKK := Lib.hid hK
    clear hyes hkeys hbr hK
    -- the world behind for the new base
    generalize hbx : sz w.heap.size [] = bx
    obtain ⟨w0, hw0⟩ : ∃ w0, wd w [x9, #[.cells #[.int .i64 n0, .int .i64 n1] 23]] n9 = w0 := ⟨_, rfl⟩
    have HM0 : Hid (More w w0) := Lib.hid (hw0 ▸ more_wd _ _ _)
    have hb0 : bx < w0.heap.size := by rw [← hw0, ← hbx, wd_size]; simp only [shape, sz]; simp; omega
    have hc0' : w0.cell? ⟨bx, 0, none⟩ = some (.int .i64 n0) := by rw [← hw0, ← hbx, wd_cell_past w _ n9 w.heap.size 0 [] x9 rfl (by simp [shape, inn]), wd_cell w _ n9 w.heap.size 0 [] _ _ (0, 0) rfl rfl]; rfl
    have hc1' : w0.cell? ⟨bx, 1, none⟩ = some (.int .i64 n1) := by rw [← hw0, ← hbx, wd_cell_past w _ n9 w.heap.size 1 [] x9 rfl (by simp [shape, inn]), wd_cell w _ n9 w.heap.size 1 [] _ _ (0, 0) rfl rfl]; rfl
    rw [hw0, ← wd_nil w0]
    clear hw0 hbx
    have HA0 : Hid (RecsAt w0 a l) := Lib.hid (HA.out.more HM0.out)
    clear HA HLI
    obtain ⟨P, hP⟩ : ∃ P : Nat, manyF n0 = (P : Int) := ⟨(manyF n0).toNat, by have := manyF_in n0; omega⟩
    obtain ⟨p1, p8⟩ := manyF_in n0
    have hkl2 : (l.take K).length = K := by rw [List.length_take]; omega
    have hkl3 : (l.drop K).length = l.length - K := by rw [List.length_drop]
    obtain ⟨aT, hsT, hrT⟩ := slice_to HA0.out cap K hKl hlc
    obtain ⟨aD, cD, hsD, hrD⟩ := slice_from HA0.out cap K hKl hlc
    have HRT := Lib.hid hrT
    have HRD := Lib.hid hrD
    have HKL3 := Lib.hid hkl3
    clear hrT hrD
    have hsp1 := fun (m : Ext) => split_any aT cap (l.take K) n0 n1 (wd w0 [m.e] m.n) (HRT.out.more (more_wd _ _ _)) (by rw [hkl2]; omega) (fun x hx => by have := HKE.out x (List.mem_of_mem_take hx); omega)
    have htwo := splitF_two P P l K (max 0 n1 % P)
    rw [hP] at hsp1 p1 p8
    rw [Int.toNat_natCast, hkl2] at hsp1
    have hl1 := splitF_len P (l.take K) (max 0 n1 % P, List.replicate P [])
    have ht1 := splitF_turn P p1 p8 (l.take K) (max 0 n1 % P, List.replicate P []) ⟨Int.emod_nonneg _ (by omega), Int.emod_lt_of_pos _ (by omega)⟩
    generalize splitF P (l.take K) (max 0 n1 % P, List.replicate P []) = sA at hsp1 htwo hl1 ht1
    obtain ⟨t1, A⟩ := sA
    dsimp only at hsp1 htwo hl1 ht1
    rw [List.length_replicate] at hl1
    have HSP1 := Lib.hid hsp1
    have HTWO := Lib.hid htwo
    have HLA := Lib.hid hl1
    have HP := Lib.hid hP
    have HL2 := Lib.hid hkl2
    clear hsp1 htwo hl1 hkl2 hkl3 hP
    refine wp_region_call (fun (m : Ext) => wd w0 [m.e] m.n) (⟨#[], w0.drawn + 1⟩) [0, 1, 2, 3, 4, 5, 6] 7 [8, 9, 10, 11, 12] [true, true, true, true, true, true, true] [false, false, false, false, false, false, false, true] [false, false, false, false, false, false, false, false, true, true, true, true, true] rfl ⟨rfl, rfl, rfl⟩ (by kernel_rfl) (by kernel_rfl) (fun _ _ d _ _ h => by cases d <;> exact h) ?_
    apply Exists.intro
    refine ⟨?_, ?_⟩
    · intro E
      simp only [sel_t, sel_f, sel_n]
      repeat (go_big_quiet_step ((fail)))
      exact wpQuiet_nil rfl
    simp only [sel_t, sel_f, sel_n]
    go_wp2_with (first | (go_at_call 6; (with_reducible refine (HSP1.out ⟨#[], w0.drawn + 1⟩).mono ?_); rintro e w1 hs; obtain ⟨ao1, rfl, hL1, hm1⟩ := hs.out; have HL1 := Lib.hid hL1; have HM1 := Lib.hid hm1; clear hs hL1 hm1))
    refine ⟨(by obtain ⟨y, z, h⟩ := HM1.out; exact ⟨⟨y, z⟩, by rw [h, wd_empty]; rfl⟩), after_of rfl ?_⟩
    apply Exists.intro
    refine ⟨?_, ?_⟩
    · simp only [sel_t, sel_f, sel_n]
      repeat (go_big_quiet_step ((fail)))
      exact wpQuiet_nil rfl
    have HM01 : Hid (More w0 w1) := Lib.hid ((more_wd w0 _ _).trans HM1.out)
    have hb1 : bx < w1.heap.size := Nat.lt_of_lt_of_le hb0 HM01.out.below.size
    have hd0 : w1.cell? ⟨bx, 0, none⟩ = some (.int .i64 n0) := by rw [HM01.out.below.cell hb0]; exact hc0'
    have hd1 : w1.cell? ⟨bx, 1, none⟩ = some (.int .i64 n1) := by rw [HM01.out.below.cell hb0]; exact hc1'
    have HMW1 : Hid (More w w1) := Lib.hid (HM0.out.trans HM01.out)
    have HA1 : Hid (RecsAt w1 a l) := Lib.hid (HA0.out.more HM01.out)
    have HRD1 : Hid (RecsAt w1 aD (l.drop K)) := Lib.hid (HRD.out.more HM01.out)
    clear hb0 hc0' hc1' HA0 HRD HRT HM0 HM01 HM1 HSP1
    have hmt : max 0 t1 % (P : Int) = t1 := by rw [show max 0 t1 = t1 by omega]; exact Int.emod_eq_of_lt ht1.1 ht1.2
    have hsp2 := fun (m : Ext) => split_any aD cD (l.drop K) n0 t1 (wd w1 [m.e] m.n) (HRD1.out.more (more_wd _ _ _)) (by rw [HKL3.out]; omega) (fun x hx => by have := HKE.out x (List.mem_of_mem_drop hx); omega)
    have hsp3 := fun (W : World) (hm : More w1 W) => split_any a cap l n0 n1 W (HA1.out.more hm) (by omega) (fun x hx => by have := HKE.out x hx; omega)
    rw [HP.out] at hsp2 hsp3
    rw [Int.toNat_natCast, hmt, HKL3.out] at hsp2
    rw [Int.toNat_natCast] at hsp3
    have htwo := HTWO.out
    have hl2 := splitF_len P (l.drop K) (t1, List.replicate P [])
    have hI := splitF_inv P (max 0 n1 % P) p1 p8 ⟨Int.emod_nonneg _ (by omega), Int.emod_lt_of_pos _ (by omega)⟩ l
    rw [Int.toNat_natCast] at hI
    generalize splitF P (l.drop K) (t1, List.replicate P []) = sB at hsp2 htwo hl2
    obtain ⟨t2, B⟩ := sB
    dsimp only at hsp2 htwo hl2
    rw [List.length_replicate] at hl2
    rw [htwo] at hsp3 hI
    dsimp only at hsp3
    have HSP2 := Lib.hid hsp2
    have HSP3 := Lib.hid hsp3
    have HI := Lib.hid hI
    have HLB := Lib.hid hl2
    clear hsp2 hsp3 htwo HTWO hmt hl2 hI ht1
    rw [← wd_nil w1]
    go_wp2
    refine wp_region_call (fun (m : Ext) => wd w1 [m.e] m.n) (⟨#[], w1.drawn + 1⟩) [0, 1, 2, 3, 4, 5] 6 [7, 8, 9, 10, 11] [true, true, true, true, true, true] [false, false, false, false, false, false, true] [false, false, false, false, false, false, false, true, true, true, true, true] rfl ⟨rfl, rfl, rfl⟩ (by kernel_rfl) (by kernel_rfl) (fun _ _ d _ _ h => by cases d <;> exact h) ?_
    apply Exists.intro
    refine ⟨?_, ?_⟩
    · intro E
      simp only [sel_t, sel_f, sel_n]
      repeat (go_big_quiet_step ((fail)))
      exact wpQuiet_nil rfl
    simp only [sel_t, sel_f, sel_n]
    go_wp2_with (first | (go_at_call 6; (with_reducible refine (HSP2.out ⟨#[], w1.drawn + 1⟩).mono ?_); rintro e w2 hs; obtain ⟨ao2, rfl, hL2, hm2⟩ := hs.out; have HL2' := Lib.hid hL2; have HM2 := Lib.hid hm2; clear hs hL2 hm2))
    refine ⟨(by obtain ⟨y, z, h⟩ := HM2.out; exact ⟨⟨y, z⟩, by rw [h, wd_empty]; rfl⟩), after_of rfl ?_⟩
    apply Exists.intro
    refine ⟨?_, ?_⟩
    · simp only [sel_t, sel_f, sel_n]
      repeat (go_big_quiet_step ((fail)))
      exact wpQuiet_nil rfl
    have HM12 : Hid (More w1 w2) := Lib.hid ((more_wd w1 _ _).trans HM2.out)
    have hb2 : bx < w2.heap.size := Nat.lt_of_lt_of_le hb1 HM12.out.below.size
    have he0 : w2.cell? ⟨bx, 0, none⟩ = some (.int .i64 n0) := by rw [HM12.out.below.cell hb1]; exact hd0
    have he1 : w2.cell? ⟨bx, 1, none⟩ = some (.int .i64 n1) := by rw [HM12.out.below.cell hb1]; exact hd1
    have HLA2 : Hid (ListsAt w2 ao1 (A.map numF)) := Lib.hid (HL1.out.more HM12.out)
    have HMW2 : Hid (More w w2) := Lib.hid (HMW1.out.trans HM12.out)
    clear hb1 hd0 hd1 HA1 HRD1 HM2 HSP2 HL1 HMW1
    rw [← wd_nil w2]
    go_wp2_with (first | (go_at_call 6; (with_reducible refine (HSP3.out _ (HM12.out.trans (more_wd _ _ _))).mono ?_); rintro e w3 hs; obtain ⟨ao3, rfl, hL3, hm3⟩ := hs.out; have HL3 := Lib.hid hL3; have HM3 := Lib.hid hm3; clear hs hL3 hm3))
    have HM23 : Hid (More w2 w3) := Lib.hid ((more_wd w2 [] w2.drawn).trans HM3.out)
    have hb3 : bx < w3.heap.size := Nat.lt_of_lt_of_le hb2 HM23.out.below.size
    have hf1 : w3.cell? ⟨bx, 1, none⟩ = some (.int .i64 n1) := by rw [HM23.out.below.cell hb2]; exact he1
    have HMW3 : Hid (More w w3) := Lib.hid (HMW2.out.trans HM23.out)
    obtain ⟨b1, o1, rfl, hB1, hC1⟩ := (HLA2.out.more HM23.out).out
    obtain ⟨b2, o2, rfl, hB2, hC2⟩ := (HL2'.out.more HM23.out).out
    obtain ⟨b3, o3, rfl, hB3, hC3⟩ := HL3.out.out
    have HC1 := Lib.hid hC1
    have HC2 := Lib.hid hC2
    have HC3 := Lib.hid hC3
    clear hC1 hC2 hC3 HLA2 HL2' HL3 HM3 HSP3 HM12 HMW2 HM23 he0 he1 hb2
    rw [← wd_nil w3]
    go_loopw [14] (fun pv wr => ∃ (p : Nat) (m : Ext), p ≤ P ∧ pv = .int .i64 p ∧ wr = wd w3 [m.e] m.n) (fun pv _ => P - (intOf pv).toNat)
    case atStart => exact ⟨0, ⟨#[], w3.drawn⟩, Nat.zero_le _, rfl, (wd_empty _ _ _).symm⟩
    case round =>
      obtain ⟨p, m, hp, rfl, rfl⟩ := hrel
      by_cases hlt : p < P
      · obtain ⟨xa, hxa⟩ : ∃ x, A[p]? = some x := ⟨_, List.getElem?_eq_getElem (by have := HLA.out; omega)⟩
        obtain ⟨xb, hxb⟩ : ∃ x, B[p]? = some x := ⟨_, List.getElem?_eq_getElem (by have := HLB.out; omega)⟩
        have hxc := catL_get A B p xa xb hxa hxb
        obtain ⟨a1, c1, g1, r1⟩ := HC1.out p (numF xa) (by simp [hxa])
        obtain ⟨a2, c2, g2, r2⟩ := HC2.out p (numF xb) (by simp [hxb])
        obtain ⟨a3, c3, g3, r3⟩ := HC3.out p (numF (xa ++ xb)) (by simp [hxc])
        have hsub := (HI.out.sub p (xa ++ xb) hxc).length_le
        rw [List.length_append] at hsub
        rw [numF_len] at g1 g2 g3
        rw [List.length_append] at g3
        obtain ⟨NA, hNA⟩ : ∃ N, xa.length = N := ⟨_, rfl⟩
        obtain ⟨NB, hNB⟩ : ∃ N, xb.length = N := ⟨_, rfl⟩
        rw [hNA] at g1 g3 hsub
        rw [hNB] at g2 g3 hsub
        obtain ⟨NC, hNC⟩ : ∃ N, NA + NB = N := ⟨_, rfl⟩
        rw [hNC] at g3 hsub
        have hNI : (NA : Int) + NB = NC := by omega
        have HNA := Lib.hid hNA
        have HNB := Lib.hid hNB
        have HR1 := Lib.hid r1
        have HR2 := Lib.hid r2
        have HR3 := Lib.hid r3
        clear hxa hxb hxc r1 r2 r3 hNA hNB
        go_wp2
        refine wp_region_wd (by kernel_rfl) (by kernel_rfl) ?_
        repeat (go_big_quiet_step ((fail)))
        refine wpQuiet_nil ?_
        rintro _ ⟨mx, rfl⟩
        go_wp2
        go_loopw [15] (fun iv wr => ∃ (i : Nat) (m2 : Ext), i ≤ NC ∧ iv = .int .i64 i ∧ wr = wd w3 [m2.e, m.e] m2.n) (fun iv _ => NC - (intOf iv).toNat)
        case atStart => exact ⟨0, ⟨_, _⟩, Nat.zero_le _, rfl, rfl⟩
        case round =>
          obtain ⟨i, m2, hi, rfl, rfl⟩ := hrel
          by_cases hlti : i < NC
          · obtain ⟨r, hr⟩ : ∃ r, (xa ++ xb)[i]? = some r := ⟨_, List.getElem?_eq_getElem (by rw [List.length_append, HNA.out, HNB.out]; omega)⟩
            obtain ⟨bc, oc, rfl, hbc, q0, q1, q2, q3, q4, q5⟩ := recs_at HR3.out i (numR r i) (numF_get _ i r hr)
            by_cases hia : i < NA
            · have hra : xa[i]? = some r := by rw [List.getElem?_append_left (by rw [HNA.out]; exact hia)] at hr; exact hr
              obtain ⟨ba, oa, rfl, hba, s0, s1, s2, s3, s4, s5⟩ := recs_at HR1.out i (numR r i) (numF_get _ i r hra)
              have hAL : ∀ W, Calls Tryz.prog 7 #[.agg (recCells (numR r i)).toArray, .agg (recCells (numR r i)).toArray] W fun e w' => e = .returned (.bool true) ∧ More W w' := fun W => by have := alike_any (numR r i) (numR r i) W; rwa [alike_num] at this
              obtain ⟨rd, rt, rk, rkey, rdead, rval⟩ := r
              dsimp only [numR] at q0 q1 q2 q3 q4 q5 s0 s1 s2 s3 s4 s5
              have hAL2 : ∀ W, Calls Tryz.prog 7 #[.agg #[.int .i64 (i : Int), .int .i64 rt, .bool rk, .string (str rkey), .bool rdead, .string (str rval)], .agg #[.int .i64 (i : Int), .int .i64 rt, .bool rk, .string (str rkey), .bool rdead, .string (str rval)]] W fun e w' => e = .returned (.bool true) ∧ More W w' := hAL
              have HAL := Lib.hid hAL2
              clear hAL hAL2 hr hra
              go_wp2
              refine wp_region_wd (by kernel_rfl) (by kernel_rfl) ?_
              repeat (go_big_quiet_step ((first | (go_at_call 7; with_reducible exact Calls.wd_of (HAL.out _)))))
              refine wpQuiet_nil ?_
              rintro _ ⟨mx, rfl⟩
              go_wp2
              go_roundw
              case rel => exact ⟨i + 1, ⟨_, _⟩, by omega, by go_num, wd_merge3 _ _ _ _ _ _⟩
              case measure => simp [intOf]; omega
            · have hrb : xb[i - NA]? = some r := by rw [List.getElem?_append_right (by rw [HNA.out]; omega), HNA.out] at hr; exact hr
              obtain ⟨j, hj⟩ : ∃ j, i - NA = j := ⟨_, rfl⟩
              rw [hj] at hrb
              have hji : (i : Int) - NA = j := by omega
              obtain ⟨bb, ob, rfl, hbb, s0, s1, s2, s3, s4, s5⟩ := recs_at HR2.out j (numR r j) (numF_get _ j r hrb)
              have hAL : ∀ W, Calls Tryz.prog 7 #[.agg (recCells (numR r i)).toArray, .agg (recCells (numR r j)).toArray] W fun e w' => e = .returned (.bool true) ∧ More W w' := fun W => by have := alike_any (numR r i) (numR r j) W; rwa [alike_num] at this
              obtain ⟨rd, rt, rk, rkey, rdead, rval⟩ := r
              dsimp only [numR] at q0 q1 q2 q3 q4 q5 s0 s1 s2 s3 s4 s5
              have hAL2 : ∀ W, Calls Tryz.prog 7 #[.agg #[.int .i64 (i : Int), .int .i64 rt, .bool rk, .string (str rkey), .bool rdead, .string (str rval)], .agg #[.int .i64 (j : Int), .int .i64 rt, .bool rk, .string (str rkey), .bool rdead, .string (str rval)]] W fun e w' => e = .returned (.bool true) ∧ More W w' := hAL
              have HAL := Lib.hid hAL2
              clear hAL hAL2 hr hrb
              have hjb : j < NB := by omega
              go_wp2
              refine wp_region_mixf (fun (s : Nat × Array Value) => wd w3 [#[Obj.cells s.2 30], m2.e, m.e] s.1) ((_, _)) [0, 1, 2, 3, 4, 5, 6, 7, 8, 9, 10, 11, 12] [13] [true, true, true, true, true, true, true, true, true, true, true, true, true] [false, false, false, false, false, false, false, false, false, false, false, false, false, true] rfl ⟨rfl, rfl⟩ (by kernel_rfl) (by kernel_rfl) (fun _ _ d _ _ h => by cases d <;> exact h) ?_
              apply Exists.intro
              refine ⟨?_, ?_⟩
              · intro E
                simp only [sel_t, sel_f, sel_n]
                repeat (go_big_quiet_step ((fail)))
                exact wpQuiet_nil rfl
              simp only [sel_t, sel_f, sel_n, loudly_cons, loudly_nil]
              go_wp2
              refine ⟨⟨(_, _), rfl⟩, ?_⟩
              rw [loudly_nil]
              go_wp2
              refine wp_region_wd (by kernel_rfl) (by kernel_rfl) ?_
              repeat (go_big_quiet_step ((first | (go_at_call 7; with_reducible exact Calls.wd_of (HAL.out _)))))
              refine wpQuiet_nil ?_
              rintro _ ⟨mx, rfl⟩
              go_wp2
              go_roundw
              case rel => exact ⟨i + 1, ⟨_, _⟩, by omega, by go_num, wd_merge3 _ _ _ _ _ _⟩
              case measure => simp [intOf]; omega
          · go_wp2
            go_roundw
            case rel => exact ⟨p + 1, ⟨_, _⟩, by omega, by go_num, wd_merge _ _ _ _ _⟩
            case measure => simp [intOf]; omega
      · go_wp2_with (first | (go_at_call 8; ((with_reducible refine (send_nil _ _ _ _ _).mono ?_); rintro e w1 ⟨rfl, x1, n1, rfl⟩)) | (go_at_call 5; ((with_reducible refine (HAW.out _).mono ?_); rintro e w1 ⟨rfl, x1, n1, rfl⟩)))
        go_ret
        exact ⟨rfl, HMW3.out.trans (more_wd _ _ _)⟩
end Go.Proofs.YtmbmibinnjfbdaaGreat
