/- slices.symMergeCmpFunc at rows of a view. Printed by gen/sym.py. -/
import Derived.Test.YtlanghikmccmbaaSA
namespace Go.Proofs.Ytlanghikmccmbaa
open Go.RowKit Go.Lib Go.Sort
set_option linter.unusedVariables false
set_option linter.unusedSimpArgs false
theorem get_list {d : Array VRow} {i : Nat} {v : VRow} (h : d.toList[i]? = some v) : d[i]! = v := by
  rw [Array.getElem?_toList] at h
  obtain ⟨hi, rfl⟩ := Array.getElem?_eq_some_iff.1 h
  exact getElem!_pos d i hi
theorem swp_comm' (d : Array VRow) {i j : Nat} (h : i ≠ j) : swp d i j = swp d j i := by
  unfold swp
  rw [Array.setIfInBounds_comm _ _ h]
/-- What is asked of the comparison: it tells by one number. -/
structure CmpBy (P : Program) (g : Nat) (cb : Array Value) (enc : VRow → List Value) (k : Nat) (cf : VRow → VRow → Int) (blk off size : Nat) (w0 : World) : Prop where
  enter : ∀ args w, (callFunc g args).run P w = .ok (.enter g args) w
  lays : CmpLays P g cb enc k cf blk off size w0
  by' : ∀ x y, cf x y < 0 ↔ x.offset < y.offset
/-- The stretch from a to b holds M. -/
structure SymRet (w0 w' : World) (e : Ending) (enc : VRow → List Value) (k blk off : Nat) (P1 U V S : List VRow) (size : Nat) : Prop where
  out : e = .returned (.tuple #[]) ∧ ∃ (d' : Array VRow) (M : List VRow), d'.size = size ∧ d'.toList = P1 ++ (M ++ S) ∧ Merged VRow.offset U V M ∧ SWK enc k w0 blk off d' w'
abbrev symArgs (blk off size cap a m b g : Nat) (cb : Array Value) : Array Value := #[.slice (some ⟨blk, off, none⟩) size cap, .int .i64 a, .int .i64 m, .int .i64 b, .func (.func g) #[] cb]
set_option maxHeartbeats 4000000 in
set_option maxRecDepth 1000000 in
theorem sym_one {P : Program} {k : Nat} (L : LayV P k) (enc : VRow → List Value) (cf : VRow → VRow → Int) (g : Nat) (cb : Array Value) (blk off cap a m b : Nat) (d0 d : Array VRow) (w0 w : World) (P1 V S : List VRow) (x : VRow)
    (HCM : CmpBy P g cb enc k cf blk off d0.size w0) (R : RowK enc k w0 blk off d0) (hs : d0.size = d.size) (SS : SWK enc k w0 blk off d w) (hd : d.toList = P1 ++ (x :: (V ++ S))) (ha : a = P1.length) (hm : m = a + 1) (hb : b = m + V.length) (hV : SortedF VRow.offset V) (hsz : d.size < 4611686018427387904) :
    Calls P 90 (symArgs blk off d.size cap a m b g cb) w fun e w' => SymRet w0 w' e enc k blk off P1 [x] V S d.size := by
  have hlen : d.size = P1.length + (1 + (V.length + S.length)) := by rw [← Array.length_toList, hd]; simp; omega
  have eg := HCM.enter
  have HC := Lib.hid HCM.lays
  have HBY := Lib.hid HCM.by'
  have S0 : Aside (SWK enc k w0 blk off d w) := SS
  have HD := Lib.hid hd
  have HV := Lib.hid hV
  obtain ⟨nv, hnv⟩ : ∃ nv, V.length = nv := ⟨_, rfl⟩
  have HL := Lib.hid (show V.length = nv ∧ P1.length = a from ⟨hnv, ha.symm⟩)
  rw [hnv] at hb hlen
  rw [← ha] at hlen
  have hm1 : m ≤ a + 1 := by omega
  have hm2 : a + 1 ≤ m := by omega
  have hb1 : b ≤ m + nv := by omega
  have hb2 : m + nv ≤ b := by omega
  have hbd : b ≤ d.size := by omega
  have gB : d[a]! = x := get_list (by rw [hd, ha, List.getElem?_append_right (Nat.le_refl _), Nat.sub_self]; rfl)
  have GV : Hid (∀ h y, m ≤ h → V[h - m]? = some y → d[h]! = y) := Lib.hid (fun h y h1 h2 => get_list (by
    rw [hd, List.getElem?_append_right (by omega), show h - P1.length = (h - m) + 1 by omega, List.getElem?_cons_succ, List.getElem?_append_left (by have := (List.getElem?_eq_some_iff.1 h2).1; omega)]; exact h2))
  clear SS hd ha hV hnv hlen hm hb HCM
  have hone : ((m : Int) - (a : Int) == 1) = true := by rw [beq_iff_eq]; omega
  have mixed := L.mixed
  have t0 := L.t0
  have a0 := L.a0
  have z0 := L.z0
  have v0 := L.v0
  have t3 := L.t3
  have a3 := L.a3
  have z3 := L.z3
  have v3 := L.v3
  have t4 := L.t4
  have a4 := L.a4
  have z4 := L.z4
  have v4 := L.v4
  have tU := L.tU
  have aU := L.aU
  have zU := L.zU
  have vU := L.vU
  have tS := L.tS
  have aS := L.aS
  have zS := L.zS
  have vS := L.vS
  have tF := L.tF
  have aF := L.aF
  have zF := L.zF
  have vF := L.vF
  have aE := L.aE
  have zE := L.zE
  unfold symArgs
  go_enter L.fsy, Try.ntmps90
  go_wp2
  go_loopg [10, 11] nv (fun gg s10 s11 wr => ∃ (i j : Nat), s10 = .int .i64 i ∧ s11 = .int .i64 j ∧ m ≤ i ∧ i ≤ j ∧ j ≤ b ∧ j - i ≤ gg ∧ Aside (SWK enc k w0 blk off d wr) ∧
    Hid ((i - m = 0 ∨ ∃ y, V[i - m - 1]? = some y ∧ y.offset < x.offset) ∧ (V.length ≤ j - m ∨ ∃ y, V[j - m]? = some y ∧ x.offset ≤ y.offset)))
  case atStart => exact ⟨m, b, rfl, rfl, Nat.le_refl _, by omega, Nat.le_refl _, by omega, S0, Lib.hid ⟨.inl (by omega), .inl (by rw [HL.out.1]; omega)⟩⟩
  case round =>
    clear S0
    obtain ⟨i, j, rfl, rfl, hmi, hij, hjb, hg, S1, HI⟩ := hrel
    by_cases hlt : i < j
    · have hltz : (i : Int) < (j : Int) := by omega
      obtain ⟨h, hh⟩ : ∃ h, (i + j) / 2 = h := ⟨_, rfl⟩
      have hhz : ((i : Int) + (j : Int)) / 2 = (h : Int) := by omega
      have hh1 : i ≤ h := by omega
      have hh2 : h < j := by omega
      obtain ⟨y, hy⟩ : ∃ y, V[h - m]? = some y := ⟨_, List.getElem?_eq_getElem (by rw [HL.out.1]; omega)⟩
      have gA := GV.out h y (by omega) hy
      have HY := Lib.hid hy
      clear hy hh
      have eA : ((h : Int)).toNat = h := by omega
      have pA : (0 : Int) ≤ (h : Int) := by omega
      have bA : (h : Int) < (d.size : Int) := by omega
      have rA : IntKind.i64.wrap ((h : Int)) = (h : Int) := by rw [IntKind.wrap_i64]; omega
      have eB : ((a : Int)).toNat = a := by omega
      have pB : (0 : Int) ≤ (a : Int) := by omega
      have bB : (a : Int) < (d.size : Int) := by omega
      have rB : IntKind.i64.wrap ((a : Int)) = (a : Int) := by rw [IntKind.wrap_i64]; omega
      have lA := fun q9 os => S1.out.ld R (by omega) P (h) (by omega) q9 os
      have lB := fun q9 os => S1.out.ld R (by omega) P (a) (by omega) q9 os
      have hcg := fun q9 os => S1.out.cmp HC.out (by omega) d[h]! d[a]! q9 os
      rw [gA] at lA hcg
      rw [gB] at lB hcg
      have SG := Lib.hid (fun q9 os => S1.out.grown q9 os)
      clear S1
      by_cases hlv : cf y x < 0
      · have HLV := Lib.hid ((HBY.out y x).1 hlv)
        go_wp2_with fail
        go_quiet_grown (first | (go_at_fn g; refine Calls.grown_of (hcg _ _)))
        go_wp2
        go_roundg (j - (h + 1))
        case measure => omega
        case rel => exact ⟨h + 1, j, by first | rfl | go_num | (congr 1; omega), rfl, by omega, by omega, hjb, Nat.le_refl _, SG.out nq osq, Lib.hid ⟨.inr ⟨y, by rw [show h + 1 - m - 1 = h - m by omega]; exact HY.out, HLV.out⟩, HI.out.2⟩⟩
      · have HLV := Lib.hid (show x.offset ≤ y.offset from Int.not_lt.1 fun hh => hlv ((HBY.out y x).2 hh))
        go_wp2_with fail
        go_quiet_grown (first | (go_at_fn g; refine Calls.grown_of (hcg _ _)))
        go_wp2
        go_roundg (h - i)
        case measure => omega
        case rel => exact ⟨i, h, rfl, by first | rfl | go_num | (congr 1; omega), hmi, hh1, by omega, Nat.le_refl _, SG.out nq osq, Lib.hid ⟨HI.out.1, .inr ⟨y, HY.out, HLV.out⟩⟩⟩
    · have hltz : ¬ (i : Int) < (j : Int) := by omega
      obtain rfl : i = j := by omega
      have HM := Lib.hid (Merged.one (i - m) HV.out HI.out.1 HI.out.2)
      have S9 : Aside (SWK enc k w0 blk off d wr) := S1.out
      clear HI S1 GV HV
      go_wp2
      go_loopg [13] (i - m) (fun gg s13 wq => ∃ (t : Nat) (dk : Array VRow), s13 = .int .i64 ((a + t : Nat) : Int) ∧ t ≤ i - m ∧ i - m - t ≤ gg ∧ dk.size = d.size ∧ Aside (SWK enc k w0 blk off dk wq) ∧ Hid (dk.toList = P1 ++ (V.take t ++ (x :: (V.drop t ++ S)))))
      case atStart => exact ⟨0, d, by first | rfl | go_num | (congr 1; omega), Nat.zero_le _, Nat.le_refl _, rfl, S9, Lib.hid (by simpa using HD.out)⟩
      case round =>
        clear S9 gB HD
        obtain ⟨t, dk, rfl, ht, hg2, hds, S1, HT⟩ := hrel
        obtain ⟨q, hq⟩ : ∃ q, a + t = q := ⟨_, rfl⟩
        have hq1 : a + t ≤ q := by omega
        have hq2 : q ≤ a + t := by omega
        rw [hq]
        clear hq
        by_cases hlt2 : t < i - m
        · have hltz2 : (q : Int) < (i : Int) - 1 := by omega
          go_wp2_with fail
          have ea1 : ((q : Int)).toNat = q := by omega
          have pa1 : (0 : Int) ≤ (q : Int) := by omega
          have ba1 : (q : Int) < (d.size : Int) := by omega
          have ra1 : IntKind.i64.wrap ((q : Int)) = (q : Int) := by rw [IntKind.wrap_i64]; omega
          have ec1 : ((q : Int) + 1).toNat = q + 1 := by omega
          have pc1 : (0 : Int) ≤ (q : Int) + 1 := by omega
          have bc1 : (q : Int) + 1 < (d.size : Int) := by omega
          have rc1 : IntKind.i64.wrap ((q : Int) + 1) = (q : Int) + 1 := by rw [IntKind.wrap_i64]; omega
          have S2 : Aside (SWK enc k w0 blk off (swp dk (q) (q + 1)) ((wr.drew.setCells blk (off + (q) * k) (enc dk[q + 1]!)).setCells blk (off + (q + 1) * k) (enc dk[q]!))) := S1.out.swapped R (q) (q + 1) (by omega) (by omega)
          have l1 := S1.out.ld1 R (by omega) P (q) (by omega)
          have l2 := S1.out.ld1 R (by omega) P (q + 1) (by omega)
          have s1 := S1.out.st1 R (by omega) P (q) (by omega) dk[q + 1]!
          have s2 := S1.out.st2 R (by omega) P (q) (q + 1) (by omega) (by omega) dk[q + 1]! dk[q]!
          have n1 : (enc dk[q]!).length = k := R.hk _
          have n2 : (enc dk[q + 1]!).length = k := R.hk _
          generalize enc dk[q]! = cI at S2 l1 s2 n1
          generalize enc dk[q + 1]! = cJ at S2 l2 s1 s2 n2
          clear S1
          go_wp2_with fail
          go_big_region_o
          clear l1 l2 s1 s2
          generalize (wr.drew.setCells blk (off + (q) * k) cJ).setCells blk (off + (q + 1) * k) cI = w3 at S2 ⊢
          go_wp2
          go_roundg (i - m - (t + 1))
          case measure => omega
          case rel =>
            refine ⟨t + 1, swp dk q (q + 1), by first | rfl | go_num | (congr 1; omega), by omega, Nat.le_refl _, by rw [size_swp]; exact hds, S2, Lib.hid ?_⟩
            obtain ⟨y, hy⟩ : ∃ y, V[t]? = some y := ⟨_, List.getElem?_eq_getElem (by rw [HL.out.1]; omega)⟩
            have ey : V.drop t = y :: V.drop (t + 1) := by rw [List.drop_eq_getElem_cons (by rw [HL.out.1]; omega)]; congr 1; exact (List.getElem?_eq_some_iff.1 hy).2
            have h := swp_list dk (P1 ++ V.take t) [] (V.drop (t + 1) ++ S) x y (by rw [HT.out, ey]; simp [List.append_assoc]) (i := q) (j := q + 1) (by have := HL.out; simp [List.length_take]; omega) (by have := HL.out; simp [List.length_take]; omega)
            rw [h, List.take_add_one, hy]
            simp [List.append_assoc]
        · obtain rfl : t = i - m := by omega
          have hltz2 : ¬ (q : Int) < (i : Int) - 1 := by omega
          go_wp2
          refine bodyPost_ret (v := .tuple #[]) (by simp [results, Try.results90, go_sem]) rfl ?_
          exact ⟨rfl, dk, _, hds, by rw [HT.out]; simp [List.append_assoc], HM.out, S1.out⟩
end Go.Proofs.Ytlanghikmccmbaa
/- slices.symMergeCmpFunc at rows of a view: one element on the right. Printed by gen/sym.py. -/
namespace Go.Proofs.Ytlanghikmccmbaa
open Go.RowKit Go.Lib Go.Sort
set_option linter.unusedVariables false
set_option linter.unusedSimpArgs false
set_option maxHeartbeats 4000000 in
set_option maxRecDepth 1000000 in
theorem sym_two {P : Program} {k : Nat} (L : LayV P k) (enc : VRow → List Value) (cf : VRow → VRow → Int) (g : Nat) (cb : Array Value) (blk off cap a m b : Nat) (d0 d : Array VRow) (w0 w : World) (P1 U S : List VRow) (y : VRow)
    (HCM : CmpBy P g cb enc k cf blk off d0.size w0) (R : RowK enc k w0 blk off d0) (hs : d0.size = d.size) (SS : SWK enc k w0 blk off d w) (hd : d.toList = P1 ++ (U ++ (y :: S))) (ha : a = P1.length) (hm : m = a + U.length) (hb : b = m + 1) (hu2 : U.length ≠ 1) (hU : SortedF VRow.offset U) (hsz : d.size < 4611686018427387904) :
    Calls P 90 (symArgs blk off d.size cap a m b g cb) w fun e w' => SymRet w0 w' e enc k blk off P1 U [y] S d.size := by
  have hlen : d.size = P1.length + (U.length + (1 + S.length)) := by rw [← Array.length_toList, hd]; simp; omega
  have eg := HCM.enter
  have HC := Lib.hid HCM.lays
  have HBY := Lib.hid HCM.by'
  have S0 : Aside (SWK enc k w0 blk off d w) := SS
  have HD := Lib.hid hd
  have HU := Lib.hid hU
  obtain ⟨nu, hnu⟩ : ∃ nu, U.length = nu := ⟨_, rfl⟩
  have HL := Lib.hid (show U.length = nu ∧ P1.length = a from ⟨hnu, ha.symm⟩)
  rw [hnu] at hm hlen hu2
  rw [← ha] at hlen
  have hm1 : m ≤ a + nu := by omega
  have hm2 : a + nu ≤ m := by omega
  have hb1 : b ≤ m + 1 := by omega
  have hb2 : m + 1 ≤ b := by omega
  have hbd : b ≤ d.size := by omega
  have gA : d[m]! = y := get_list (by rw [hd, List.getElem?_append_right (by omega), List.getElem?_append_right (by omega), show m - P1.length - U.length = 0 by omega]; rfl)
  have GU : Hid (∀ h x, a ≤ h → U[h - a]? = some x → d[h]! = x) := Lib.hid (fun h x h1 h2 => get_list (by
    rw [hd, List.getElem?_append_right (by omega), List.getElem?_append_left (by have := (List.getElem?_eq_some_iff.1 h2).1; omega), ← ha]; exact h2))
  clear SS hd ha hU hnu hlen hm hb HCM
  have hone : ((m : Int) - (a : Int) == 1) = false := by rw [beq_eq_false_iff_ne]; omega
  have hone2 : ((b : Int) - (m : Int) == 1) = true := by rw [beq_iff_eq]; omega
  have mixed := L.mixed
  have t0 := L.t0
  have a0 := L.a0
  have z0 := L.z0
  have v0 := L.v0
  have t3 := L.t3
  have a3 := L.a3
  have z3 := L.z3
  have v3 := L.v3
  have t4 := L.t4
  have a4 := L.a4
  have z4 := L.z4
  have v4 := L.v4
  have tU := L.tU
  have aU := L.aU
  have zU := L.zU
  have vU := L.vU
  have tS := L.tS
  have aS := L.aS
  have zS := L.zS
  have vS := L.vS
  have tF := L.tF
  have aF := L.aF
  have zF := L.zF
  have vF := L.vF
  have aE := L.aE
  have zE := L.zE
  unfold symArgs
  go_enter L.fsy, Try.ntmps90
  go_wp2
  go_loopg [14, 15] nu (fun gg s14 s15 wr => ∃ (i j : Nat), s14 = .int .i64 i ∧ s15 = .int .i64 j ∧ a ≤ i ∧ i ≤ j ∧ j ≤ m ∧ j - i ≤ gg ∧ Aside (SWK enc k w0 blk off d wr) ∧
    Hid ((i - a = 0 ∨ ∃ x, U[i - a - 1]? = some x ∧ x.offset ≤ y.offset) ∧ (U.length ≤ j - a ∨ ∃ x, U[j - a]? = some x ∧ y.offset < x.offset)))
  case atStart => exact ⟨a, m, rfl, rfl, Nat.le_refl _, by omega, Nat.le_refl _, by omega, S0, Lib.hid ⟨.inl (by omega), .inl (by rw [HL.out.1]; omega)⟩⟩
  case round =>
    clear S0
    obtain ⟨i, j, rfl, rfl, hmi, hij, hjb, hg, S1, HI⟩ := hrel
    by_cases hlt : i < j
    · have hltz : (i : Int) < (j : Int) := by omega
      obtain ⟨h, hh⟩ : ∃ h, (i + j) / 2 = h := ⟨_, rfl⟩
      have hhz : ((i : Int) + (j : Int)) / 2 = (h : Int) := by omega
      have hh1 : i ≤ h := by omega
      have hh2 : h < j := by omega
      obtain ⟨x, hx⟩ : ∃ x, U[h - a]? = some x := ⟨_, List.getElem?_eq_getElem (by rw [HL.out.1]; omega)⟩
      have gB := GU.out h x (by omega) hx
      have HX := Lib.hid hx
      clear hx hh
      have eA : ((m : Int)).toNat = m := by omega
      have pA : (0 : Int) ≤ (m : Int) := by omega
      have bA : (m : Int) < (d.size : Int) := by omega
      have rA : IntKind.i64.wrap ((m : Int)) = (m : Int) := by rw [IntKind.wrap_i64]; omega
      have eB : ((h : Int)).toNat = h := by omega
      have pB : (0 : Int) ≤ (h : Int) := by omega
      have bB : (h : Int) < (d.size : Int) := by omega
      have rB : IntKind.i64.wrap ((h : Int)) = (h : Int) := by rw [IntKind.wrap_i64]; omega
      have lA := fun q9 os => S1.out.ld R (by omega) P (m) (by omega) q9 os
      have lB := fun q9 os => S1.out.ld R (by omega) P (h) (by omega) q9 os
      have hcg := fun q9 os => S1.out.cmp HC.out (by omega) d[m]! d[h]! q9 os
      rw [gA] at lA hcg
      rw [gB] at lB hcg
      have SG := Lib.hid (fun q9 os => S1.out.grown q9 os)
      clear S1
      by_cases hlv : cf y x < 0
      · have HLV := Lib.hid ((HBY.out y x).1 hlv)
        have hlb : decide (cf y x < 0) = true := decide_eq_true hlv
        go_wp2_with fail
        go_quiet_grown (first | (go_at_fn g; refine Calls.grown_of (hcg _ _)))
        go_wp2
        go_roundg (h - i)
        case measure => omega
        case rel => exact ⟨i, h, rfl, by first | rfl | go_num | (congr 1; omega), hmi, hh1, by omega, Nat.le_refl _, SG.out nq osq, Lib.hid ⟨HI.out.1, .inr ⟨x, HX.out, HLV.out⟩⟩⟩
      · have HLV := Lib.hid (show x.offset ≤ y.offset from Int.not_lt.1 fun hh => hlv ((HBY.out y x).2 hh))
        have hlb : decide (cf y x < 0) = false := decide_eq_false hlv
        go_wp2_with fail
        go_quiet_grown (first | (go_at_fn g; refine Calls.grown_of (hcg _ _)))
        go_wp2
        go_roundg (j - (h + 1))
        case measure => omega
        case rel => exact ⟨h + 1, j, by first | rfl | go_num | (congr 1; omega), rfl, by omega, by omega, hjb, Nat.le_refl _, SG.out nq osq, Lib.hid ⟨.inr ⟨x, by rw [show h + 1 - a - 1 = h - a by omega]; exact HX.out, HLV.out⟩, HI.out.2⟩⟩
    · have hltz : ¬ (i : Int) < (j : Int) := by omega
      obtain rfl : i = j := by omega
      have HM := Lib.hid (Merged.one' (i - a) HU.out HI.out.1 HI.out.2)
      have S9 : Aside (SWK enc k w0 blk off d wr) := S1.out
      clear HI S1 GU HU
      go_wp2
      go_loopg [17] (m - i) (fun gg s17 wq => ∃ (q : Nat) (dk : Array VRow), s17 = .int .i64 q ∧ i ≤ q ∧ q ≤ m ∧ q - i ≤ gg ∧ dk.size = d.size ∧ Aside (SWK enc k w0 blk off dk wq) ∧ Hid (dk.toList = P1 ++ (U.take (q - a) ++ (y :: (U.drop (q - a) ++ S)))))
      case atStart => exact ⟨m, d, rfl, hjb, Nat.le_refl _, Nat.le_refl _, rfl, S9, Lib.hid (by rw [List.take_of_length_le (by rw [HL.out.1]; omega), List.drop_of_length_le (by rw [HL.out.1]; omega)]; exact HD.out)⟩
      case round =>
        clear S9 gA HD
        obtain ⟨q, dk, rfl, hq1, hq2, hg2, hds, S1, HT⟩ := hrel
        by_cases hlt2 : i < q
        · have hltz2 : (i : Int) < (q : Int) := by omega
          have hq0 : 0 < q := by omega
          go_wp2_with fail
          have ea1 : ((q : Int)).toNat = q := by omega
          have pa1 : (0 : Int) ≤ (q : Int) := by omega
          have ba1 : (q : Int) < (d.size : Int) := by omega
          have ra1 : IntKind.i64.wrap ((q : Int)) = (q : Int) := by rw [IntKind.wrap_i64]; omega
          have ec1 : ((q : Int) - 1).toNat = q - 1 := by omega
          have pc1 : (0 : Int) ≤ (q : Int) - 1 := by omega
          have bc1 : (q : Int) - 1 < (d.size : Int) := by omega
          have rc1 : IntKind.i64.wrap ((q : Int) - 1) = (q : Int) - 1 := by rw [IntKind.wrap_i64]; omega
          have S2 : Aside (SWK enc k w0 blk off (swp dk (q) (q - 1)) ((wr.drew.setCells blk (off + (q) * k) (enc dk[q - 1]!)).setCells blk (off + (q - 1) * k) (enc dk[q]!))) := S1.out.swapped R (q) (q - 1) (by omega) (by omega)
          have l1 := S1.out.ld1 R (by omega) P (q) (by omega)
          have l2 := S1.out.ld1 R (by omega) P (q - 1) (by omega)
          have s1 := S1.out.st1 R (by omega) P (q) (by omega) dk[q - 1]!
          have s2 := S1.out.st2 R (by omega) P (q) (q - 1) (by omega) (by omega) dk[q - 1]! dk[q]!
          have n1 : (enc dk[q]!).length = k := R.hk _
          have n2 : (enc dk[q - 1]!).length = k := R.hk _
          generalize enc dk[q]! = cI at S2 l1 s2 n1
          generalize enc dk[q - 1]! = cJ at S2 l2 s1 s2 n2
          clear S1
          go_wp2_with fail
          go_big_region_o
          clear l1 l2 s1 s2
          generalize (wr.drew.setCells blk (off + (q) * k) cJ).setCells blk (off + (q - 1) * k) cI = w3 at S2 ⊢
          go_wp2
          go_roundg (q - 1 - i)
          case measure => omega
          case rel =>
            refine ⟨q - 1, swp dk q (q - 1), by first | rfl | go_num | (congr 1; omega), by omega, by omega, Nat.le_refl _, by rw [size_swp]; exact hds, S2, Lib.hid ?_⟩
            obtain ⟨hl1, hl2⟩ := HL.out
            obtain ⟨x, hx⟩ : ∃ x, U[q - 1 - a]? = some x := ⟨_, List.getElem?_eq_getElem (by omega)⟩
            have ex : U.drop (q - 1 - a) = x :: U.drop (q - a) := by rw [List.drop_eq_getElem_cons (by omega), show q - 1 - a + 1 = q - a by omega]; congr 1; exact (List.getElem?_eq_some_iff.1 hx).2
            have ey : U.take (q - a) = U.take (q - 1 - a) ++ [x] := by rw [show q - a = (q - 1 - a) + 1 by omega, List.take_add_one, hx]; rfl
            have h := swp_list dk (P1 ++ U.take (q - 1 - a)) [] (U.drop (q - a) ++ S) x y (by rw [HT.out, ey]; simp [List.append_assoc]) (i := q - 1) (j := q) (by simp [List.length_take]; omega) (by simp [List.length_take]; omega)
            rw [swp_comm' dk (by omega), h, ex]
            simp [List.append_assoc]
        · obtain rfl : q = i := by omega
          have hltz2 : ¬ (q : Int) < (q : Int) := by omega
          go_wp2
          refine bodyPost_ret (v := .tuple #[]) (by simp [results, Try.results90, go_sem]) rfl ?_
          exact ⟨rfl, dk, _, hds, by rw [HT.out]; simp [List.append_assoc], HM.out, S1.out⟩
end Go.Proofs.Ytlanghikmccmbaa
