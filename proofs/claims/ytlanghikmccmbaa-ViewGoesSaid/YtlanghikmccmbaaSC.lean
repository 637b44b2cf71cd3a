/- slices.symMergeCmpFunc at rows of a view: more on both sides; and whole. Printed by gen/sym.py. -/
import Derived.Test.YtlanghikmccmbaaSB
namespace Go.Proofs.Ytlanghikmccmbaa
open Go.RowKit Go.Lib Go.Sort
set_option linter.unusedVariables false
set_option linter.unusedSimpArgs false
theorem merged_triv {U V : List VRow} (h : U = [] ∨ V = []) (hU : SortedF VRow.offset U) (hV : SortedF VRow.offset V) : Merged VRow.offset U V (U ++ V) := by
  rcases h with rfl | rfl
  · exact Merged.right hV
  · rw [List.append_nil]; exact Merged.left hU
set_option maxHeartbeats 16000000 in
set_option maxRecDepth 1000000 in
theorem sym_gen {P : Program} {k : Nat} (L : LayV P k) (enc : VRow → List Value) (cf : VRow → VRow → Int) (g : Nat) (cb : Array Value) (blk off cap a m b : Nat) (d0 d : Array VRow) (w0 w : World) (P1 U V S : List VRow)
    (HCM : CmpBy P g cb enc k cf blk off d0.size w0) (R : RowK enc k w0 blk off d0) (hs : d0.size = d.size) (SS : SWK enc k w0 blk off d w) (hd : d.toList = P1 ++ (U ++ (V ++ S))) (ha : a = P1.length) (hm : m = a + U.length) (hb : b = m + V.length) (hu2 : 2 ≤ U.length) (hv2 : 2 ≤ V.length) (hU : SortedF VRow.offset U) (hV : SortedF VRow.offset V) (hsz : d.size < 4611686018427387904)
    (IH : ∀ (a' m' b' : Nat) (dk : Array VRow) (W : World) (P' U' V' S' : List VRow), b' - a' < b - a → dk.size = d.size → SWK enc k w0 blk off dk W → dk.toList = P' ++ (U' ++ (V' ++ S')) → a' = P'.length → m' = a' + U'.length → b' = m' + V'.length → 0 < U'.length → 0 < V'.length → SortedF VRow.offset U' → SortedF VRow.offset V' →
      Calls P 90 (symArgs blk off d.size cap a' m' b' g cb) W fun e w' => SymRet w0 w' e enc k blk off P' U' V' S' d.size) :
    Calls P 90 (symArgs blk off d.size cap a m b g cb) w fun e w' => SymRet w0 w' e enc k blk off P1 U V S d.size := by
  have hlen : d.size = P1.length + (U.length + (V.length + S.length)) := by rw [← Array.length_toList, hd]; simp
  have eg := HCM.enter
  have esy : ∀ args w, (callFunc 90 args).run P w = .ok (.enter 90 args) w := enters_of L.fsy (by kernel_rfl) rfl
  have ero : ∀ args w, (callFunc 106 args).run P w = .ok (.enter 106 args) w := enters_of L.fro (by kernel_rfl) rfl
  have HC := Lib.hid HCM.lays
  have HBY := Lib.hid HCM.by'
  have S0 : Aside (SWK enc k w0 blk off d w) := SS
  have HD := Lib.hid hd
  have HU := Lib.hid hU
  have HV := Lib.hid hV
  obtain ⟨nu, hnu⟩ : ∃ nu, U.length = nu := ⟨_, rfl⟩
  obtain ⟨nv, hnv⟩ : ∃ nv, V.length = nv := ⟨_, rfl⟩
  have HL := Lib.hid (show U.length = nu ∧ V.length = nv ∧ P1.length = a from ⟨hnu, hnv, ha.symm⟩)
  rw [hnu] at hm hlen hu2
  rw [hnv] at hb hlen hv2
  rw [← ha] at hlen
  have hm1 : m ≤ a + nu := by omega
  have hm2 : a + nu ≤ m := by omega
  have hb1 : b ≤ m + nv := by omega
  have hb2 : m + nv ≤ b := by omega
  have hbd : b ≤ d.size := by omega
  have GU : Hid (∀ c, a ≤ c → c < m → U[c - a]? = some d[c]!) := Lib.hid (fun c h1 h2 => by
    obtain ⟨x, hx⟩ : ∃ x, U[c - a]? = some x := ⟨_, List.getElem?_eq_getElem (by omega)⟩
    rw [hx, get_list (d := d) (i := c) (v := x) (by rw [hd, List.getElem?_append_right (by omega), List.getElem?_append_left (by omega), ← ha]; exact hx)])
  have GV : Hid (∀ c, m ≤ c → c < b → V[c - m]? = some d[c]!) := Lib.hid (fun c h1 h2 => by
    obtain ⟨x, hx⟩ : ∃ x, V[c - m]? = some x := ⟨_, List.getElem?_eq_getElem (by omega)⟩
    rw [hx, get_list (d := d) (i := c) (v := x) (by rw [hd, List.getElem?_append_right (by omega), List.getElem?_append_right (by omega), List.getElem?_append_left (by omega), show c - P1.length - U.length = c - m by omega]; exact hx)])
  have HIH := Lib.hid IH
  clear SS hd ha hU hV hnu hnv hlen hm hb HCM IH
  have hone : ((m : Int) - (a : Int) == 1) = false := by rw [beq_eq_false_iff_ne]; omega
  have hone2 : ((b : Int) - (m : Int) == 1) = false := by rw [beq_eq_false_iff_ne]; omega
  obtain ⟨mid, hmid⟩ : ∃ mid, (a + b) / 2 = mid := ⟨_, rfl⟩
  have hmz : ((a : Int) + (b : Int)) / 2 = (mid : Int) := by omega
  have hmd1 : 2 * mid ≤ a + b := by omega
  have hmd2 : a + b ≤ 2 * mid + 1 := by omega
  obtain ⟨n, hn⟩ : ∃ n, mid + m = n := ⟨_, rfl⟩
  have hnz : (mid : Int) + (m : Int) = (n : Int) := by omega
  have hn1 : n ≤ mid + m := by omega
  have hn2 : mid + m ≤ n := by omega
  clear hmid hn
  have mixed := L.mixed
  have t0 := L.t0
  have a0 := L.a0
  have z0 := L.z0
  have v0 := L.v0
  have t3 := L.t3
  have a3 := L.a3
  have z3 := L.z3
  have v3 := L.v3
  have t4 := L.t4
  have a4 := L.a4
  have z4 := L.z4
  have v4 := L.v4
  have tU := L.tU
  have aU := L.aU
  have zU := L.zU
  have vU := L.vU
  have tS := L.tS
  have aS := L.aS
  have zS := L.zS
  have vS := L.vS
  have tF := L.tF
  have aF := L.aF
  have zF := L.zF
  have vF := L.vF
  have aE := L.aE
  have zE := L.zE
  unfold symArgs
  go_enter L.fsy, Try.ntmps90
  by_cases hmm : mid < m
  · have hcz : (mid : Int) < (m : Int) := by omega
    obtain ⟨s0, hs0⟩ : ∃ s0, n - b = s0 := ⟨_, rfl⟩
    obtain ⟨r0, hr0⟩ : ∃ r0, mid = r0 := ⟨_, rfl⟩
    have hsz0 : (n : Int) - (b : Int) = (s0 : Int) := by omega
    have HS0 := Lib.hid (show s0 = a ∨ n = b + s0 by omega)
    have HR0 := Lib.hid (show r0 = m ∨ n = m + r0 by omega)
    have hs1 : a ≤ s0 := by omega
    have hs2 : s0 ≤ r0 := by omega
    have hs3 : r0 ≤ m := by omega
    have hs4 : n ≤ b + s0 := by omega
    have hs5 : m + r0 ≤ n := by omega
    have hs6 : r0 ≤ mid := by omega
    have hs7 : mid ≤ r0 := by omega
    clear hs0 hr0
    go_wp2
    go_loopg [20, 21] (r0 - s0) (fun gg s20 s21 wr => ∃ (i j : Nat), s20 = .int .i64 i ∧ s21 = .int .i64 j ∧ s0 ≤ i ∧ i ≤ j ∧ j ≤ r0 ∧ j - i ≤ gg ∧ Aside (SWK enc k w0 blk off d wr) ∧
      Hid ((i = s0 ∨ (d[i - 1]!).offset ≤ (d[n - i]!).offset) ∧ (j = r0 ∨ (d[n - 1 - j]!).offset < (d[j]!).offset)))
    case atStart => exact ⟨s0, r0, by first | rfl | go_num | (congr 1; omega), by first | rfl | go_num | (congr 1; omega), Nat.le_refl _, hs2, Nat.le_refl _, Nat.le_refl _, S0, Lib.hid ⟨.inl rfl, .inl rfl⟩⟩
    case round =>
      clear S0
      obtain ⟨i, j, rfl, rfl, hsi, hij, hjr, hg, S1, HI⟩ := hrel
      by_cases hlt : i < j
      · have hltz : (i : Int) < (j : Int) := by omega
        obtain ⟨h, hh⟩ : ∃ h, (i + j) / 2 = h := ⟨_, rfl⟩
        have hhz : ((i : Int) + (j : Int)) / 2 = (h : Int) := by omega
        have hh1 : i ≤ h := by omega
        have hh2 : h < j := by omega
        obtain ⟨z, hz⟩ : ∃ z, n - 1 - h = z := ⟨_, rfl⟩
        have hzz : (n : Int) - 1 - (h : Int) = (z : Int) := by omega
        have hz1 : z + 1 + h ≤ n := by omega
        have hz2 : n ≤ z + 1 + h := by omega
        obtain ⟨y, gA⟩ : ∃ y, d[z]! = y := ⟨_, rfl⟩
        obtain ⟨x, gB⟩ : ∃ x, d[h]! = x := ⟨_, rfl⟩
        have GG := Lib.hid (show d[n - 1 - h]! = y ∧ d[h]! = x from ⟨by rw [hz]; exact gA, gB⟩)
        clear hh hz
        have eA : ((z : Int)).toNat = z := by omega
        have pA : (0 : Int) ≤ (z : Int) := by omega
        have bA : (z : Int) < (d.size : Int) := by omega
        have rA : IntKind.i64.wrap ((z : Int)) = (z : Int) := by rw [IntKind.wrap_i64]; omega
        have eB : ((h : Int)).toNat = h := by omega
        have pB : (0 : Int) ≤ (h : Int) := by omega
        have bB : (h : Int) < (d.size : Int) := by omega
        have rB : IntKind.i64.wrap ((h : Int)) = (h : Int) := by rw [IntKind.wrap_i64]; omega
        have lA := fun q9 os => S1.out.ld R (by omega) P (z) (by omega) q9 os
        have lB := fun q9 os => S1.out.ld R (by omega) P (h) (by omega) q9 os
        have hcg := fun q9 os => S1.out.cmp HC.out (by omega) d[z]! d[h]! q9 os
        rw [gA] at lA hcg
        rw [gB] at lB hcg
        have SG := Lib.hid (fun q9 os => S1.out.grown q9 os)
        clear S1
        by_cases hlv : cf y x < 0
        · have HLV := Lib.hid ((HBY.out y x).1 hlv)
          have hlb : decide (cf y x < 0) = true := decide_eq_true hlv
          go_wp2_with fail
          go_quiet_grown (first | (go_at_fn g; refine Calls.grown_of (hcg _ _)))
          go_wp2
          go_roundg (h - i)
          case measure => omega
          case rel => exact ⟨i, h, rfl, by first | rfl | go_num | (congr 1; omega), hsi, hh1, by omega, Nat.le_refl _, SG.out nq osq, Lib.hid ⟨HI.out.1, .inr (by rw [GG.out.1, GG.out.2]; exact HLV.out)⟩⟩
        · have HLV := Lib.hid (show x.offset ≤ y.offset from Int.not_lt.1 fun hh => hlv ((HBY.out y x).2 hh))
          have hlb : decide (cf y x < 0) = false := decide_eq_false hlv
          go_wp2_with fail
          go_quiet_grown (first | (go_at_fn g; refine Calls.grown_of (hcg _ _)))
          go_wp2
          go_roundg (j - (h + 1))
          case measure => omega
          case rel => exact ⟨h + 1, j, by first | rfl | go_num | (congr 1; omega), rfl, by omega, by omega, hjr, Nat.le_refl _, SG.out nq osq, Lib.hid ⟨.inr (by rw [Nat.add_sub_cancel, show n - (h + 1) = n - 1 - h by omega, GG.out.1, GG.out.2]; exact HLV.out), HI.out.2⟩⟩
      · have hltz : ¬ (i : Int) < (j : Int) := by omega
        obtain rfl : i = j := by omega
        obtain ⟨en, hen⟩ : ∃ en, n - i = en := ⟨_, rfl⟩
        have hez : (n : Int) - (i : Int) = (en : Int) := by omega
        have he1 : en + i ≤ n := by omega
        have he2 : n ≤ en + i := by omega
        have H12 := Lib.hid (split12 (f := VRow.offset) (s := i - a) (e := en - m) HU.out HV.out (by
          rcases HI.out.1 with h1 | h1
          · rcases HS0.out with h2 | h2
            · left; omega
            · right; left; rw [HL.out.2.1]; omega
          · by_cases h3 : i = a
            · left; omega
            · by_cases h4 : b ≤ en
              · right; left; rw [HL.out.2.1]; omega
              · right; right; exact ⟨_, _, by rw [show i - a - 1 = i - 1 - a by omega]; exact GU.out (i - 1) (by omega) (by omega), GV.out en (by omega) (by omega), by rw [← hen]; exact h1⟩))
        have H21 := Lib.hid (split21 (f := VRow.offset) (s := i - a) (e := en - m) HU.out HV.out (by
          rcases HI.out.2 with h1 | h1
          · rcases HR0.out with h2 | h2
            · left; rw [HL.out.1]; omega
            · right; left; omega
          · by_cases h3 : m ≤ i
            · left; rw [HL.out.1]; omega
            · by_cases h4 : en = m
              · right; left; omega
              · right; right; exact ⟨_, _, GU.out i (by omega) (by omega), by rw [show en - m - 1 = en - 1 - m by omega]; exact GV.out (en - 1) (by omega) (by omega), by rw [show en - 1 = n - 1 - i by omega]; exact h1⟩))
        obtain ⟨U1, hU1⟩ : ∃ U1, U.take (i - a) = U1 := ⟨_, rfl⟩
        obtain ⟨U2, hU2⟩ : ∃ U2, U.drop (i - a) = U2 := ⟨_, rfl⟩
        obtain ⟨V1, hV1⟩ : ∃ V1, V.take (en - m) = V1 := ⟨_, rfl⟩
        obtain ⟨V2, hV2⟩ : ∃ V2, V.drop (en - m) = V2 := ⟨_, rfl⟩
        have HTK := Lib.hid (show U.take (i - a) = U1 ∧ V.take (en - m) = V1 ∧ U.drop (i - a) = U2 ∧ V.drop (en - m) = V2 from ⟨hU1, hV1, hU2, hV2⟩)
        have HSP := Lib.hid (show U = U1 ++ U2 ∧ V = V1 ++ V2 ∧ U1.length = i - a ∧ U2.length = m - i ∧ V1.length = en - m ∧ V2.length = b - en ∧ P1.length = a from by
          have h9 := HL.out
          exact ⟨by rw [← hU1, ← hU2, List.take_append_drop], by rw [← hV1, ← hV2, List.take_append_drop], by rw [← hU1, List.length_take]; omega, by rw [← hU2, List.length_drop]; omega, by rw [← hV1, List.length_take]; omega, by rw [← hV2, List.length_drop]; omega, h9.2.2⟩)
        have HSO := Lib.hid (show SortedF VRow.offset U1 ∧ SortedF VRow.offset V1 ∧ SortedF VRow.offset U2 ∧ SortedF VRow.offset V2 from ⟨by rw [← hU1]; exact HU.out.sublist (List.take_sublist _ _), by rw [← hV1]; exact HV.out.sublist (List.take_sublist _ _), by rw [← hU2]; exact HU.out.sublist (List.drop_sublist _ _), by rw [← hV2]; exact HV.out.sublist (List.drop_sublist _ _)⟩)
        clear hU1 hU2 hV1 hV2 hen HI GU GV
        have HFIN : Hid (∀ M1 M2, Merged VRow.offset U1 V1 M1 → Merged VRow.offset U2 V2 M2 → Merged VRow.offset U V (M1 ++ M2)) := Lib.hid (fun M1 M2 h1 h2 => by
          rw [← HTK.out.1] at h1
          rw [← HTK.out.2.1] at h1
          rw [← HTK.out.2.2.1] at h2
          rw [← HTK.out.2.2.2] at h2
          exact Merged.split _ _ HU.out HV.out H12.out H21.out h1 h2)
        by_cases c1 : i < m
        · by_cases c2 : m < en
          · by_cases c3 : a < i
            · by_cases c6 : en < b
              · have j0 : (i : Int) < (m : Int) := by omega
                have j1 : (m : Int) < (en : Int) := by omega
                have j2 : (a : Int) < (i : Int) := by omega
                have j3 : (i : Int) < (mid : Int) := by omega
                have j4 : (mid : Int) < (en : Int) := by omega
                have j5 : (en : Int) < (b : Int) := by omega
                have HROT := Lib.hid (rotate_any L enc g cb blk off cap i m en d0 d w0 wr (P1 ++ U1) U2 V1 (V2 ++ S) R hs S1.out (by rw [HD.out, HSP.out.1, HSP.out.2.1]; simp [List.append_assoc]) (by have := HSP.out; rw [List.length_append]; omega) (by have := HSP.out; omega) (by have := HSP.out; omega) (by have := HSP.out; omega) (by have := HSP.out; omega) hsz)
                clear S1
                have HR1 := Lib.hid (fun dk W h1 h2 h3 => HIH.out a i mid dk W P1 U1 V1 (U2 ++ (V2 ++ S)) (by omega) h1 h2 h3 (by have := HSP.out; omega) (by have := HSP.out; omega) (by have := HSP.out; omega) (by have := HSP.out; omega) (by have := HSP.out; omega) HSO.out.1 HSO.out.2.1)
                have HR2 := Lib.hid (fun dk W M1 (hl : M1.length = U1.length + V1.length) h1 h2 h3 => HIH.out mid en b dk W (P1 ++ M1) U2 V2 S (by omega) h1 h2 h3 (by have := HSP.out; rw [List.length_append]; omega) (by have := HSP.out; omega) (by have := HSP.out; omega) (by have := HSP.out; omega) (by have := HSP.out; omega) HSO.out.2.2.1 HSO.out.2.2.2)
                go_wp2_with (first | (go_at_fn 106; refine HROT.out.mono ?_; rintro e w1 ⟨rfl, d1, hz1, hd1, hs1⟩; have HZ1 := Lib.hid hz1; have HD1 := Lib.hid hd1; have HS1 := Lib.hid hs1; clear hz1 hd1 hs1) | (go_at_fn 90; refine (HR1.out d1 _ HZ1.out HS1.out (by rw [HD1.out, List.append_assoc])).mono ?_; rintro e w2 hq; obtain ⟨rfl, d2, M1, hz2, hd2, hm2', hs2⟩ := hq.out; have HZ2 := Lib.hid hz2; have HD2 := Lib.hid hd2; have HM1 := Lib.hid hm2'; have HS2 := Lib.hid hs2; clear hq hz2 hd2 hm2' hs2) | (go_at_fn 90; refine (HR2.out d2 _ M1 HM1.out.len HZ2.out HS2.out (by rw [HD2.out]; simp [List.append_assoc])).mono ?_; rintro e w3 hq; obtain ⟨rfl, d3, M2, hz3, hd3, hm3, hs3⟩ := hq.out; have HZ3 := Lib.hid hz3; have HD3 := Lib.hid hd3; have HM2 := Lib.hid hm3; have HS3 := Lib.hid hs3; clear hq hz3 hd3 hm3 hs3))
                go_end0
                exact ⟨rfl, d3, M1 ++ M2, HZ3.out, by rw [HD3.out]; simp [List.append_assoc], HFIN.out _ _ HM1.out HM2.out, HS3.out⟩
              · have j0 : (i : Int) < (m : Int) := by omega
                have j1 : (m : Int) < (en : Int) := by omega
                have j2 : (a : Int) < (i : Int) := by omega
                have j3 : (i : Int) < (mid : Int) := by omega
                have j4 : (mid : Int) < (en : Int) := by omega
                have j5 : ¬ (en : Int) < (b : Int) := by omega
                have HROT := Lib.hid (rotate_any L enc g cb blk off cap i m en d0 d w0 wr (P1 ++ U1) U2 V1 (V2 ++ S) R hs S1.out (by rw [HD.out, HSP.out.1, HSP.out.2.1]; simp [List.append_assoc]) (by have := HSP.out; rw [List.length_append]; omega) (by have := HSP.out; omega) (by have := HSP.out; omega) (by have := HSP.out; omega) (by have := HSP.out; omega) hsz)
                clear S1
                have HM2 := Lib.hid (merged_triv (U := U2) (V := V2) (.inr (List.eq_nil_of_length_eq_zero (by have := HSP.out; omega))) HSO.out.2.2.1 HSO.out.2.2.2)
                have HR1 := Lib.hid (fun dk W h1 h2 h3 => HIH.out a i mid dk W P1 U1 V1 (U2 ++ (V2 ++ S)) (by omega) h1 h2 h3 (by have := HSP.out; omega) (by have := HSP.out; omega) (by have := HSP.out; omega) (by have := HSP.out; omega) (by have := HSP.out; omega) HSO.out.1 HSO.out.2.1)
                go_wp2_with (first | (go_at_fn 106; refine HROT.out.mono ?_; rintro e w1 ⟨rfl, d1, hz1, hd1, hs1⟩; have HZ1 := Lib.hid hz1; have HD1 := Lib.hid hd1; have HS1 := Lib.hid hs1; clear hz1 hd1 hs1) | (go_at_fn 90; refine (HR1.out d1 _ HZ1.out HS1.out (by rw [HD1.out, List.append_assoc])).mono ?_; rintro e w2 hq; obtain ⟨rfl, d2, M1, hz2, hd2, hm2', hs2⟩ := hq.out; have HZ2 := Lib.hid hz2; have HD2 := Lib.hid hd2; have HM1 := Lib.hid hm2'; have HS2 := Lib.hid hs2; clear hq hz2 hd2 hm2' hs2))
                go_end0
                exact ⟨rfl, d2, M1 ++ (U2 ++ V2), HZ2.out, by rw [HD2.out]; simp [List.append_assoc], HFIN.out _ _ HM1.out HM2.out, HS2.out⟩
            · by_cases c6 : en < b
              · have j0 : (i : Int) < (m : Int) := by omega
                have j1 : (m : Int) < (en : Int) := by omega
                have j2 : ¬ (a : Int) < (i : Int) := by omega
                have j3 : (mid : Int) < (en : Int) := by omega
                have j4 : (en : Int) < (b : Int) := by omega
                have HROT := Lib.hid (rotate_any L enc g cb blk off cap i m en d0 d w0 wr (P1 ++ U1) U2 V1 (V2 ++ S) R hs S1.out (by rw [HD.out, HSP.out.1, HSP.out.2.1]; simp [List.append_assoc]) (by have := HSP.out; rw [List.length_append]; omega) (by have := HSP.out; omega) (by have := HSP.out; omega) (by have := HSP.out; omega) (by have := HSP.out; omega) hsz)
                clear S1
                have HM1 := Lib.hid (merged_triv (U := U1) (V := V1) (.inl (List.eq_nil_of_length_eq_zero (by have := HSP.out; omega))) HSO.out.1 HSO.out.2.1)
                have HR2 := Lib.hid (fun dk W M1 (hl : M1.length = U1.length + V1.length) h1 h2 h3 => HIH.out mid en b dk W (P1 ++ M1) U2 V2 S (by omega) h1 h2 h3 (by have := HSP.out; rw [List.length_append]; omega) (by have := HSP.out; omega) (by have := HSP.out; omega) (by have := HSP.out; omega) (by have := HSP.out; omega) HSO.out.2.2.1 HSO.out.2.2.2)
                go_wp2_with (first | (go_at_fn 106; refine HROT.out.mono ?_; rintro e w1 ⟨rfl, d1, hz1, hd1, hs1⟩; have HZ1 := Lib.hid hz1; have HD1 := Lib.hid hd1; have HS1 := Lib.hid hs1; clear hz1 hd1 hs1) | (go_at_fn 90; refine (HR2.out d1 _ (U1 ++ V1) HM1.out.len HZ1.out HS1.out (by rw [HD1.out]; simp [List.append_assoc])).mono ?_; rintro e w3 hq; obtain ⟨rfl, d3, M2, hz3, hd3, hm3, hs3⟩ := hq.out; have HZ3 := Lib.hid hz3; have HD3 := Lib.hid hd3; have HM2 := Lib.hid hm3; have HS3 := Lib.hid hs3; clear hq hz3 hd3 hm3 hs3))
                go_end0
                exact ⟨rfl, d3, (U1 ++ V1) ++ M2, HZ3.out, by rw [HD3.out]; simp [List.append_assoc], HFIN.out _ _ HM1.out HM2.out, HS3.out⟩
              · have j0 : (i : Int) < (m : Int) := by omega
                have j1 : (m : Int) < (en : Int) := by omega
                have j2 : ¬ (a : Int) < (i : Int) := by omega
                have j3 : (mid : Int) < (en : Int) := by omega
                have j4 : ¬ (en : Int) < (b : Int) := by omega
                have HROT := Lib.hid (rotate_any L enc g cb blk off cap i m en d0 d w0 wr (P1 ++ U1) U2 V1 (V2 ++ S) R hs S1.out (by rw [HD.out, HSP.out.1, HSP.out.2.1]; simp [List.append_assoc]) (by have := HSP.out; rw [List.length_append]; omega) (by have := HSP.out; omega) (by have := HSP.out; omega) (by have := HSP.out; omega) (by have := HSP.out; omega) hsz)
                clear S1
                have HM1 := Lib.hid (merged_triv (U := U1) (V := V1) (.inl (List.eq_nil_of_length_eq_zero (by have := HSP.out; omega))) HSO.out.1 HSO.out.2.1)
                have HM2 := Lib.hid (merged_triv (U := U2) (V := V2) (.inr (List.eq_nil_of_length_eq_zero (by have := HSP.out; omega))) HSO.out.2.2.1 HSO.out.2.2.2)
                go_wp2_with (first | (go_at_fn 106; refine HROT.out.mono ?_; rintro e w1 ⟨rfl, d1, hz1, hd1, hs1⟩; have HZ1 := Lib.hid hz1; have HD1 := Lib.hid hd1; have HS1 := Lib.hid hs1; clear hz1 hd1 hs1))
                go_end0
                exact ⟨rfl, d1, (U1 ++ V1) ++ (U2 ++ V2), HZ1.out, by rw [HD1.out]; simp [List.append_assoc], HFIN.out _ _ HM1.out HM2.out, HS1.out⟩
          · by_cases c3 : a < i
            · have j0 : (i : Int) < (m : Int) := by omega
              have j1 : ¬ (m : Int) < (en : Int) := by omega
              have j2 : (a : Int) < (i : Int) := by omega
              have j3 : ¬ (i : Int) < (mid : Int) := by omega
              have j4 : (mid : Int) < (en : Int) := by omega
              have j5 : (en : Int) < (b : Int) := by omega
              obtain ⟨d1, hd1e⟩ : ∃ d1, d1 = d := ⟨_, rfl⟩
              have HZ1 := Lib.hid (show d1.size = d.size by rw [hd1e])
              have HS1 := Lib.hid (show SWK enc k w0 blk off d1 wr by rw [hd1e]; exact S1.out)
              have HD1 := Lib.hid (show d1.toList = (P1 ++ U1) ++ (V1 ++ (U2 ++ (V2 ++ S))) by rw [hd1e, HD.out, HSP.out.1, HSP.out.2.1]; rcases (show U2 = [] ∨ V1 = [] from .inr (List.eq_nil_of_length_eq_zero (by have := HSP.out; omega))) with h | h <;> simp [h, List.append_assoc])
              clear hd1e
              clear S1
              have HM1 := Lib.hid (merged_triv (U := U1) (V := V1) (.inr (List.eq_nil_of_length_eq_zero (by have := HSP.out; omega))) HSO.out.1 HSO.out.2.1)
              have HR2 := Lib.hid (fun dk W M1 (hl : M1.length = U1.length + V1.length) h1 h2 h3 => HIH.out mid en b dk W (P1 ++ M1) U2 V2 S (by omega) h1 h2 h3 (by have := HSP.out; rw [List.length_append]; omega) (by have := HSP.out; omega) (by have := HSP.out; omega) (by have := HSP.out; omega) (by have := HSP.out; omega) HSO.out.2.2.1 HSO.out.2.2.2)
              go_wp2_with (first | (go_at_fn 90; refine (HR2.out d1 _ (U1 ++ V1) HM1.out.len HZ1.out HS1.out (by rw [HD1.out]; simp [List.append_assoc])).mono ?_; rintro e w3 hq; obtain ⟨rfl, d3, M2, hz3, hd3, hm3, hs3⟩ := hq.out; have HZ3 := Lib.hid hz3; have HD3 := Lib.hid hd3; have HM2 := Lib.hid hm3; have HS3 := Lib.hid hs3; clear hq hz3 hd3 hm3 hs3))
              go_end0
              exact ⟨rfl, d3, (U1 ++ V1) ++ M2, HZ3.out, by rw [HD3.out]; simp [List.append_assoc], HFIN.out _ _ HM1.out HM2.out, HS3.out⟩
            · have j0 : (i : Int) < (m : Int) := by omega
              have j1 : ¬ (m : Int) < (en : Int) := by omega
              have j2 : ¬ (a : Int) < (i : Int) := by omega
              have j3 : (mid : Int) < (en : Int) := by omega
              have j4 : (en : Int) < (b : Int) := by omega
              obtain ⟨d1, hd1e⟩ : ∃ d1, d1 = d := ⟨_, rfl⟩
              have HZ1 := Lib.hid (show d1.size = d.size by rw [hd1e])
              have HS1 := Lib.hid (show SWK enc k w0 blk off d1 wr by rw [hd1e]; exact S1.out)
              have HD1 := Lib.hid (show d1.toList = (P1 ++ U1) ++ (V1 ++ (U2 ++ (V2 ++ S))) by rw [hd1e, HD.out, HSP.out.1, HSP.out.2.1]; rcases (show U2 = [] ∨ V1 = [] from .inr (List.eq_nil_of_length_eq_zero (by have := HSP.out; omega))) with h | h <;> simp [h, List.append_assoc])
              clear hd1e
              clear S1
              have HM1 := Lib.hid (merged_triv (U := U1) (V := V1) (.inl (List.eq_nil_of_length_eq_zero (by have := HSP.out; omega))) HSO.out.1 HSO.out.2.1)
              have HR2 := Lib.hid (fun dk W M1 (hl : M1.length = U1.length + V1.length) h1 h2 h3 => HIH.out mid en b dk W (P1 ++ M1) U2 V2 S (by omega) h1 h2 h3 (by have := HSP.out; rw [List.length_append]; omega) (by have := HSP.out; omega) (by have := HSP.out; omega) (by have := HSP.out; omega) (by have := HSP.out; omega) HSO.out.2.2.1 HSO.out.2.2.2)
              go_wp2_with (first | (go_at_fn 90; refine (HR2.out d1 _ (U1 ++ V1) HM1.out.len HZ1.out HS1.out (by rw [HD1.out]; simp [List.append_assoc])).mono ?_; rintro e w3 hq; obtain ⟨rfl, d3, M2, hz3, hd3, hm3, hs3⟩ := hq.out; have HZ3 := Lib.hid hz3; have HD3 := Lib.hid hd3; have HM2 := Lib.hid hm3; have HS3 := Lib.hid hs3; clear hq hz3 hd3 hm3 hs3))
              go_end0
              exact ⟨rfl, d3, (U1 ++ V1) ++ M2, HZ3.out, by rw [HD3.out]; simp [List.append_assoc], HFIN.out _ _ HM1.out HM2.out, HS3.out⟩
        · by_cases c4 : i < mid
          · exfalso; omega
          · exfalso; omega
  · have hcz : ¬ (mid : Int) < (m : Int) := by omega
    obtain ⟨s0, hs0⟩ : ∃ s0, a = s0 := ⟨_, rfl⟩
    obtain ⟨r0, hr0⟩ : ∃ r0, m = r0 := ⟨_, rfl⟩
    have HS0 := Lib.hid (show s0 = a ∨ n = b + s0 by omega)
    have HR0 := Lib.hid (show r0 = m ∨ n = m + r0 by omega)
    have hs1 : a ≤ s0 := by omega
    have hs2 : s0 ≤ r0 := by omega
    have hs3 : r0 ≤ m := by omega
    have hs4 : n ≤ b + s0 := by omega
    have hs5 : m + r0 ≤ n := by omega
    have hs6 : s0 ≤ a := by omega
    have hs7 : m ≤ r0 := by omega
    clear hs0 hr0
    go_wp2
    go_loopg [20, 21] (r0 - s0) (fun gg s20 s21 wr => ∃ (i j : Nat), s20 = .int .i64 i ∧ s21 = .int .i64 j ∧ s0 ≤ i ∧ i ≤ j ∧ j ≤ r0 ∧ j - i ≤ gg ∧ Aside (SWK enc k w0 blk off d wr) ∧
      Hid ((i = s0 ∨ (d[i - 1]!).offset ≤ (d[n - i]!).offset) ∧ (j = r0 ∨ (d[n - 1 - j]!).offset < (d[j]!).offset)))
    case atStart => exact ⟨s0, r0, by first | rfl | go_num | (congr 1; omega), by first | rfl | go_num | (congr 1; omega), Nat.le_refl _, hs2, Nat.le_refl _, Nat.le_refl _, S0, Lib.hid ⟨.inl rfl, .inl rfl⟩⟩
    case round =>
      clear S0
      obtain ⟨i, j, rfl, rfl, hsi, hij, hjr, hg, S1, HI⟩ := hrel
      by_cases hlt : i < j
      · have hltz : (i : Int) < (j : Int) := by omega
        obtain ⟨h, hh⟩ : ∃ h, (i + j) / 2 = h := ⟨_, rfl⟩
        have hhz : ((i : Int) + (j : Int)) / 2 = (h : Int) := by omega
        have hh1 : i ≤ h := by omega
        have hh2 : h < j := by omega
        obtain ⟨z, hz⟩ : ∃ z, n - 1 - h = z := ⟨_, rfl⟩
        have hzz : (n : Int) - 1 - (h : Int) = (z : Int) := by omega
        have hz1 : z + 1 + h ≤ n := by omega
        have hz2 : n ≤ z + 1 + h := by omega
        obtain ⟨y, gA⟩ : ∃ y, d[z]! = y := ⟨_, rfl⟩
        obtain ⟨x, gB⟩ : ∃ x, d[h]! = x := ⟨_, rfl⟩
        have GG := Lib.hid (show d[n - 1 - h]! = y ∧ d[h]! = x from ⟨by rw [hz]; exact gA, gB⟩)
        clear hh hz
        have eA : ((z : Int)).toNat = z := by omega
        have pA : (0 : Int) ≤ (z : Int) := by omega
        have bA : (z : Int) < (d.size : Int) := by omega
        have rA : IntKind.i64.wrap ((z : Int)) = (z : Int) := by rw [IntKind.wrap_i64]; omega
        have eB : ((h : Int)).toNat = h := by omega
        have pB : (0 : Int) ≤ (h : Int) := by omega
        have bB : (h : Int) < (d.size : Int) := by omega
        have rB : IntKind.i64.wrap ((h : Int)) = (h : Int) := by rw [IntKind.wrap_i64]; omega
        have lA := fun q9 os => S1.out.ld R (by omega) P (z) (by omega) q9 os
        have lB := fun q9 os => S1.out.ld R (by omega) P (h) (by omega) q9 os
        have hcg := fun q9 os => S1.out.cmp HC.out (by omega) d[z]! d[h]! q9 os
        rw [gA] at lA hcg
        rw [gB] at lB hcg
        have SG := Lib.hid (fun q9 os => S1.out.grown q9 os)
        clear S1
        by_cases hlv : cf y x < 0
        · have HLV := Lib.hid ((HBY.out y x).1 hlv)
          have hlb : decide (cf y x < 0) = true := decide_eq_true hlv
          go_wp2_with fail
          go_quiet_grown (first | (go_at_fn g; refine Calls.grown_of (hcg _ _)))
          go_wp2
          go_roundg (h - i)
          case measure => omega
          case rel => exact ⟨i, h, rfl, by first | rfl | go_num | (congr 1; omega), hsi, hh1, by omega, Nat.le_refl _, SG.out nq osq, Lib.hid ⟨HI.out.1, .inr (by rw [GG.out.1, GG.out.2]; exact HLV.out)⟩⟩
        · have HLV := Lib.hid (show x.offset ≤ y.offset from Int.not_lt.1 fun hh => hlv ((HBY.out y x).2 hh))
          have hlb : decide (cf y x < 0) = false := decide_eq_false hlv
          go_wp2_with fail
          go_quiet_grown (first | (go_at_fn g; refine Calls.grown_of (hcg _ _)))
          go_wp2
          go_roundg (j - (h + 1))
          case measure => omega
          case rel => exact ⟨h + 1, j, by first | rfl | go_num | (congr 1; omega), rfl, by omega, by omega, hjr, Nat.le_refl _, SG.out nq osq, Lib.hid ⟨.inr (by rw [Nat.add_sub_cancel, show n - (h + 1) = n - 1 - h by omega, GG.out.1, GG.out.2]; exact HLV.out), HI.out.2⟩⟩
      · have hltz : ¬ (i : Int) < (j : Int) := by omega
        obtain rfl : i = j := by omega
        obtain ⟨en, hen⟩ : ∃ en, n - i = en := ⟨_, rfl⟩
        have hez : (n : Int) - (i : Int) = (en : Int) := by omega
        have he1 : en + i ≤ n := by omega
        have he2 : n ≤ en + i := by omega
        have H12 := Lib.hid (split12 (f := VRow.offset) (s := i - a) (e := en - m) HU.out HV.out (by
          rcases HI.out.1 with h1 | h1
          · rcases HS0.out with h2 | h2
            · left; omega
            · right; left; rw [HL.out.2.1]; omega
          · by_cases h3 : i = a
            · left; omega
            · by_cases h4 : b ≤ en
              · right; left; rw [HL.out.2.1]; omega
              · right; right; exact ⟨_, _, by rw [show i - a - 1 = i - 1 - a by omega]; exact GU.out (i - 1) (by omega) (by omega), GV.out en (by omega) (by omega), by rw [← hen]; exact h1⟩))
        have H21 := Lib.hid (split21 (f := VRow.offset) (s := i - a) (e := en - m) HU.out HV.out (by
          rcases HI.out.2 with h1 | h1
          · rcases HR0.out with h2 | h2
            · left; rw [HL.out.1]; omega
            · right; left; omega
          · by_cases h3 : m ≤ i
            · left; rw [HL.out.1]; omega
            · by_cases h4 : en = m
              · right; left; omega
              · right; right; exact ⟨_, _, GU.out i (by omega) (by omega), by rw [show en - m - 1 = en - 1 - m by omega]; exact GV.out (en - 1) (by omega) (by omega), by rw [show en - 1 = n - 1 - i by omega]; exact h1⟩))
        obtain ⟨U1, hU1⟩ : ∃ U1, U.take (i - a) = U1 := ⟨_, rfl⟩
        obtain ⟨U2, hU2⟩ : ∃ U2, U.drop (i - a) = U2 := ⟨_, rfl⟩
        obtain ⟨V1, hV1⟩ : ∃ V1, V.take (en - m) = V1 := ⟨_, rfl⟩
        obtain ⟨V2, hV2⟩ : ∃ V2, V.drop (en - m) = V2 := ⟨_, rfl⟩
        have HTK := Lib.hid (show U.take (i - a) = U1 ∧ V.take (en - m) = V1 ∧ U.drop (i - a) = U2 ∧ V.drop (en - m) = V2 from ⟨hU1, hV1, hU2, hV2⟩)
        have HSP := Lib.hid (show U = U1 ++ U2 ∧ V = V1 ++ V2 ∧ U1.length = i - a ∧ U2.length = m - i ∧ V1.length = en - m ∧ V2.length = b - en ∧ P1.length = a from by
          have h9 := HL.out
          exact ⟨by rw [← hU1, ← hU2, List.take_append_drop], by rw [← hV1, ← hV2, List.take_append_drop], by rw [← hU1, List.length_take]; omega, by rw [← hU2, List.length_drop]; omega, by rw [← hV1, List.length_take]; omega, by rw [← hV2, List.length_drop]; omega, h9.2.2⟩)
        have HSO := Lib.hid (show SortedF VRow.offset U1 ∧ SortedF VRow.offset V1 ∧ SortedF VRow.offset U2 ∧ SortedF VRow.offset V2 from ⟨by rw [← hU1]; exact HU.out.sublist (List.take_sublist _ _), by rw [← hV1]; exact HV.out.sublist (List.take_sublist _ _), by rw [← hU2]; exact HU.out.sublist (List.drop_sublist _ _), by rw [← hV2]; exact HV.out.sublist (List.drop_sublist _ _)⟩)
        clear hU1 hU2 hV1 hV2 hen HI GU GV
        have HFIN : Hid (∀ M1 M2, Merged VRow.offset U1 V1 M1 → Merged VRow.offset U2 V2 M2 → Merged VRow.offset U V (M1 ++ M2)) := Lib.hid (fun M1 M2 h1 h2 => by
          rw [← HTK.out.1] at h1
          rw [← HTK.out.2.1] at h1
          rw [← HTK.out.2.2.1] at h2
          rw [← HTK.out.2.2.2] at h2
          exact Merged.split _ _ HU.out HV.out H12.out H21.out h1 h2)
        by_cases c1 : i < m
        · by_cases c2 : m < en
          · by_cases c3 : a < i
            · by_cases c6 : en < b
              · have j0 : (i : Int) < (m : Int) := by omega
                have j1 : (m : Int) < (en : Int) := by omega
                have j2 : (a : Int) < (i : Int) := by omega
                have j3 : (i : Int) < (mid : Int) := by omega
                have j4 : (mid : Int) < (en : Int) := by omega
                have j5 : (en : Int) < (b : Int) := by omega
                have HROT := Lib.hid (rotate_any L enc g cb blk off cap i m en d0 d w0 wr (P1 ++ U1) U2 V1 (V2 ++ S) R hs S1.out (by rw [HD.out, HSP.out.1, HSP.out.2.1]; simp [List.append_assoc]) (by have := HSP.out; rw [List.length_append]; omega) (by have := HSP.out; omega) (by have := HSP.out; omega) (by have := HSP.out; omega) (by have := HSP.out; omega) hsz)
                clear S1
                have HR1 := Lib.hid (fun dk W h1 h2 h3 => HIH.out a i mid dk W P1 U1 V1 (U2 ++ (V2 ++ S)) (by omega) h1 h2 h3 (by have := HSP.out; omega) (by have := HSP.out; omega) (by have := HSP.out; omega) (by have := HSP.out; omega) (by have := HSP.out; omega) HSO.out.1 HSO.out.2.1)
                have HR2 := Lib.hid (fun dk W M1 (hl : M1.length = U1.length + V1.length) h1 h2 h3 => HIH.out mid en b dk W (P1 ++ M1) U2 V2 S (by omega) h1 h2 h3 (by have := HSP.out; rw [List.length_append]; omega) (by have := HSP.out; omega) (by have := HSP.out; omega) (by have := HSP.out; omega) (by have := HSP.out; omega) HSO.out.2.2.1 HSO.out.2.2.2)
                go_wp2_with (first | (go_at_fn 106; refine HROT.out.mono ?_; rintro e w1 ⟨rfl, d1, hz1, hd1, hs1⟩; have HZ1 := Lib.hid hz1; have HD1 := Lib.hid hd1; have HS1 := Lib.hid hs1; clear hz1 hd1 hs1) | (go_at_fn 90; refine (HR1.out d1 _ HZ1.out HS1.out (by rw [HD1.out, List.append_assoc])).mono ?_; rintro e w2 hq; obtain ⟨rfl, d2, M1, hz2, hd2, hm2', hs2⟩ := hq.out; have HZ2 := Lib.hid hz2; have HD2 := Lib.hid hd2; have HM1 := Lib.hid hm2'; have HS2 := Lib.hid hs2; clear hq hz2 hd2 hm2' hs2) | (go_at_fn 90; refine (HR2.out d2 _ M1 HM1.out.len HZ2.out HS2.out (by rw [HD2.out]; simp [List.append_assoc])).mono ?_; rintro e w3 hq; obtain ⟨rfl, d3, M2, hz3, hd3, hm3, hs3⟩ := hq.out; have HZ3 := Lib.hid hz3; have HD3 := Lib.hid hd3; have HM2 := Lib.hid hm3; have HS3 := Lib.hid hs3; clear hq hz3 hd3 hm3 hs3))
                go_end0
                exact ⟨rfl, d3, M1 ++ M2, HZ3.out, by rw [HD3.out]; simp [List.append_assoc], HFIN.out _ _ HM1.out HM2.out, HS3.out⟩
              · have j0 : (i : Int) < (m : Int) := by omega
                have j1 : (m : Int) < (en : Int) := by omega
                have j2 : (a : Int) < (i : Int) := by omega
                have j3 : (i : Int) < (mid : Int) := by omega
                have j4 : (mid : Int) < (en : Int) := by omega
                have j5 : ¬ (en : Int) < (b : Int) := by omega
                have HROT := Lib.hid (rotate_any L enc g cb blk off cap i m en d0 d w0 wr (P1 ++ U1) U2 V1 (V2 ++ S) R hs S1.out (by rw [HD.out, HSP.out.1, HSP.out.2.1]; simp [List.append_assoc]) (by have := HSP.out; rw [List.length_append]; omega) (by have := HSP.out; omega) (by have := HSP.out; omega) (by have := HSP.out; omega) (by have := HSP.out; omega) hsz)
                clear S1
                have HM2 := Lib.hid (merged_triv (U := U2) (V := V2) (.inr (List.eq_nil_of_length_eq_zero (by have := HSP.out; omega))) HSO.out.2.2.1 HSO.out.2.2.2)
                have HR1 := Lib.hid (fun dk W h1 h2 h3 => HIH.out a i mid dk W P1 U1 V1 (U2 ++ (V2 ++ S)) (by omega) h1 h2 h3 (by have := HSP.out; omega) (by have := HSP.out; omega) (by have := HSP.out; omega) (by have := HSP.out; omega) (by have := HSP.out; omega) HSO.out.1 HSO.out.2.1)
                go_wp2_with (first | (go_at_fn 106; refine HROT.out.mono ?_; rintro e w1 ⟨rfl, d1, hz1, hd1, hs1⟩; have HZ1 := Lib.hid hz1; have HD1 := Lib.hid hd1; have HS1 := Lib.hid hs1; clear hz1 hd1 hs1) | (go_at_fn 90; refine (HR1.out d1 _ HZ1.out HS1.out (by rw [HD1.out, List.append_assoc])).mono ?_; rintro e w2 hq; obtain ⟨rfl, d2, M1, hz2, hd2, hm2', hs2⟩ := hq.out; have HZ2 := Lib.hid hz2; have HD2 := Lib.hid hd2; have HM1 := Lib.hid hm2'; have HS2 := Lib.hid hs2; clear hq hz2 hd2 hm2' hs2))
                go_end0
                exact ⟨rfl, d2, M1 ++ (U2 ++ V2), HZ2.out, by rw [HD2.out]; simp [List.append_assoc], HFIN.out _ _ HM1.out HM2.out, HS2.out⟩
            · by_cases c6 : en < b
              · have j0 : (i : Int) < (m : Int) := by omega
                have j1 : (m : Int) < (en : Int) := by omega
                have j2 : ¬ (a : Int) < (i : Int) := by omega
                have j3 : (mid : Int) < (en : Int) := by omega
                have j4 : (en : Int) < (b : Int) := by omega
                have HROT := Lib.hid (rotate_any L enc g cb blk off cap i m en d0 d w0 wr (P1 ++ U1) U2 V1 (V2 ++ S) R hs S1.out (by rw [HD.out, HSP.out.1, HSP.out.2.1]; simp [List.append_assoc]) (by have := HSP.out; rw [List.length_append]; omega) (by have := HSP.out; omega) (by have := HSP.out; omega) (by have := HSP.out; omega) (by have := HSP.out; omega) hsz)
                clear S1
                have HM1 := Lib.hid (merged_triv (U := U1) (V := V1) (.inl (List.eq_nil_of_length_eq_zero (by have := HSP.out; omega))) HSO.out.1 HSO.out.2.1)
                have HR2 := Lib.hid (fun dk W M1 (hl : M1.length = U1.length + V1.length) h1 h2 h3 => HIH.out mid en b dk W (P1 ++ M1) U2 V2 S (by omega) h1 h2 h3 (by have := HSP.out; rw [List.length_append]; omega) (by have := HSP.out; omega) (by have := HSP.out; omega) (by have := HSP.out; omega) (by have := HSP.out; omega) HSO.out.2.2.1 HSO.out.2.2.2)
                go_wp2_with (first | (go_at_fn 106; refine HROT.out.mono ?_; rintro e w1 ⟨rfl, d1, hz1, hd1, hs1⟩; have HZ1 := Lib.hid hz1; have HD1 := Lib.hid hd1; have HS1 := Lib.hid hs1; clear hz1 hd1 hs1) | (go_at_fn 90; refine (HR2.out d1 _ (U1 ++ V1) HM1.out.len HZ1.out HS1.out (by rw [HD1.out]; simp [List.append_assoc])).mono ?_; rintro e w3 hq; obtain ⟨rfl, d3, M2, hz3, hd3, hm3, hs3⟩ := hq.out; have HZ3 := Lib.hid hz3; have HD3 := Lib.hid hd3; have HM2 := Lib.hid hm3; have HS3 := Lib.hid hs3; clear hq hz3 hd3 hm3 hs3))
                go_end0
                exact ⟨rfl, d3, (U1 ++ V1) ++ M2, HZ3.out, by rw [HD3.out]; simp [List.append_assoc], HFIN.out _ _ HM1.out HM2.out, HS3.out⟩
              · have j0 : (i : Int) < (m : Int) := by omega
                have j1 : (m : Int) < (en : Int) := by omega
                have j2 : ¬ (a : Int) < (i : Int) := by omega
                have j3 : (mid : Int) < (en : Int) := by omega
                have j4 : ¬ (en : Int) < (b : Int) := by omega
                have HROT := Lib.hid (rotate_any L enc g cb blk off cap i m en d0 d w0 wr (P1 ++ U1) U2 V1 (V2 ++ S) R hs S1.out (by rw [HD.out, HSP.out.1, HSP.out.2.1]; simp [List.append_assoc]) (by have := HSP.out; rw [List.length_append]; omega) (by have := HSP.out; omega) (by have := HSP.out; omega) (by have := HSP.out; omega) (by have := HSP.out; omega) hsz)
                clear S1
                have HM1 := Lib.hid (merged_triv (U := U1) (V := V1) (.inl (List.eq_nil_of_length_eq_zero (by have := HSP.out; omega))) HSO.out.1 HSO.out.2.1)
                have HM2 := Lib.hid (merged_triv (U := U2) (V := V2) (.inr (List.eq_nil_of_length_eq_zero (by have := HSP.out; omega))) HSO.out.2.2.1 HSO.out.2.2.2)
                go_wp2_with (first | (go_at_fn 106; refine HROT.out.mono ?_; rintro e w1 ⟨rfl, d1, hz1, hd1, hs1⟩; have HZ1 := Lib.hid hz1; have HD1 := Lib.hid hd1; have HS1 := Lib.hid hs1; clear hz1 hd1 hs1))
                go_end0
                exact ⟨rfl, d1, (U1 ++ V1) ++ (U2 ++ V2), HZ1.out, by rw [HD1.out]; simp [List.append_assoc], HFIN.out _ _ HM1.out HM2.out, HS1.out⟩
          · by_cases c3 : a < i
            · exfalso; omega
            · exfalso; omega
        · by_cases c4 : i < mid
          · have j0 : ¬ (i : Int) < (m : Int) := by omega
            have j1 : (a : Int) < (i : Int) := by omega
            have j2 : (i : Int) < (mid : Int) := by omega
            have j3 : ¬ (mid : Int) < (en : Int) := by omega
            obtain ⟨d1, hd1e⟩ : ∃ d1, d1 = d := ⟨_, rfl⟩
            have HZ1 := Lib.hid (show d1.size = d.size by rw [hd1e])
            have HS1 := Lib.hid (show SWK enc k w0 blk off d1 wr by rw [hd1e]; exact S1.out)
            have HD1 := Lib.hid (show d1.toList = (P1 ++ U1) ++ (V1 ++ (U2 ++ (V2 ++ S))) by rw [hd1e, HD.out, HSP.out.1, HSP.out.2.1]; rcases (show U2 = [] ∨ V1 = [] from .inl (List.eq_nil_of_length_eq_zero (by have := HSP.out; omega))) with h | h <;> simp [h, List.append_assoc])
            clear hd1e
            clear S1
            have HM2 := Lib.hid (merged_triv (U := U2) (V := V2) (.inl (List.eq_nil_of_length_eq_zero (by have := HSP.out; omega))) HSO.out.2.2.1 HSO.out.2.2.2)
            have HR1 := Lib.hid (fun dk W h1 h2 h3 => HIH.out a i mid dk W P1 U1 V1 (U2 ++ (V2 ++ S)) (by omega) h1 h2 h3 (by have := HSP.out; omega) (by have := HSP.out; omega) (by have := HSP.out; omega) (by have := HSP.out; omega) (by have := HSP.out; omega) HSO.out.1 HSO.out.2.1)
            go_wp2_with (first | (go_at_fn 90; refine (HR1.out d1 _ HZ1.out HS1.out (by rw [HD1.out, List.append_assoc])).mono ?_; rintro e w2 hq; obtain ⟨rfl, d2, M1, hz2, hd2, hm2', hs2⟩ := hq.out; have HZ2 := Lib.hid hz2; have HD2 := Lib.hid hd2; have HM1 := Lib.hid hm2'; have HS2 := Lib.hid hs2; clear hq hz2 hd2 hm2' hs2))
            go_end0
            exact ⟨rfl, d2, M1 ++ (U2 ++ V2), HZ2.out, by rw [HD2.out]; simp [List.append_assoc], HFIN.out _ _ HM1.out HM2.out, HS2.out⟩
          · have j0 : ¬ (i : Int) < (m : Int) := by omega
            have j1 : (a : Int) < (i : Int) := by omega
            have j2 : ¬ (i : Int) < (mid : Int) := by omega
            have j3 : ¬ (mid : Int) < (en : Int) := by omega
            obtain ⟨d1, hd1e⟩ : ∃ d1, d1 = d := ⟨_, rfl⟩
            have HZ1 := Lib.hid (show d1.size = d.size by rw [hd1e])
            have HS1 := Lib.hid (show SWK enc k w0 blk off d1 wr by rw [hd1e]; exact S1.out)
            have HD1 := Lib.hid (show d1.toList = (P1 ++ U1) ++ (V1 ++ (U2 ++ (V2 ++ S))) by rw [hd1e, HD.out, HSP.out.1, HSP.out.2.1]; rcases (show U2 = [] ∨ V1 = [] from .inl (List.eq_nil_of_length_eq_zero (by have := HSP.out; omega))) with h | h <;> simp [h, List.append_assoc])
            clear hd1e
            clear S1
            have HM1 := Lib.hid (merged_triv (U := U1) (V := V1) (.inr (List.eq_nil_of_length_eq_zero (by have := HSP.out; omega))) HSO.out.1 HSO.out.2.1)
            have HM2 := Lib.hid (merged_triv (U := U2) (V := V2) (.inl (List.eq_nil_of_length_eq_zero (by have := HSP.out; omega))) HSO.out.2.2.1 HSO.out.2.2.2)
            go_wp2
            go_end0
            exact ⟨rfl, d1, (U1 ++ V1) ++ (U2 ++ V2), HZ1.out, by rw [HD1.out]; simp [List.append_assoc], HFIN.out _ _ HM1.out HM2.out, HS1.out⟩
end Go.Proofs.Ytlanghikmccmbaa
