/- Law 37: RouteOnce's walk. -/
import Derived.Test.YtpdmcnbbompeiaaRC
import Derived.Test.YtpdmcnbbompeiaaRG
namespace Go.Proofs.Ytpdmcnbbompeiaa
open Go.ChangeShapes Go.WideShapes Go.ChangeAt Go.RowKit
set_option linter.unusedVariables false
set_option linter.unusedSimpArgs false
theorem numF_get (x : List Rec) (i : Nat) (r : Rec) (h : x[i]? = some r) : (numF x)[i]? = some (numR r i) := by simp [numF, h]
theorem ofF_many (k : List UInt8) (n : Int) : ofF k (manyF n) = ofF k n := by
  unfold ofF
  have : manyF (manyF n) = manyF n := by unfold manyF; omega
  rw [this]
theorem sub_lt {α : Type} {r : α} {rest l : List α} {at_ : Nat} (h : (r :: rest).Sublist (l.drop at_)) : at_ < l.length := by
  have := h.length_le
  simp only [List.length_cons, List.length_drop] at this
  omega
theorem drop_get {α : Type} {l : List α} {k : Nat} {y : α} (h : l[k]? = some y) : l.drop k = y :: l.drop (k + 1) := by
  obtain ⟨hk, rfl⟩ := List.getElem?_eq_some_iff.1 h
  exact List.drop_eq_getElem_cons hk
theorem sub_take {α : Type} {r y : α} {rest l : List α} {k : Nat} (h : (r :: rest).Sublist (l.drop k)) (hy : l[k]? = some y) : rest.Sublist (l.drop (k + 1)) := by
  rw [drop_get hy] at h
  cases h with
  | cons _ h => exact (List.sublist_cons_self _ _).trans h
  | cons_cons _ h => exact h
theorem sub_skip {r y : Rec} {i : Nat} {rest l : List Rec} {k : Nat} (h : (r :: rest).Sublist (l.drop k)) (hy : l[k]? = some y) (hn : alikeB y (numR r i) = false) : (r :: rest).Sublist (l.drop (k + 1)) := by
  rw [drop_get hy] at h
  cases h with
  | cons _ h => exact h
  | cons_cons _ h => simp [alikeB, numR] at hn
theorem cntN_le (l : List Rec) : cntN l ≤ l.length := List.length_filter_le _ _
theorem drop_cons {α : Type} {x : List α} {i : Nat} {r : α} (h : x[i]? = some r) : x.drop i = r :: x.drop (i + 1) := drop_get h
theorem info_int2 : (Try.prog.info? 3).map (fun i => (i.zero, i.size, i.bytes)) = some (some (.int .i64 0), 1, 8) := by kernel_rfl
abbrev cntCells (xs : List (List Rec)) : List Value := xs.map fun x => .int .i64 (cntN x : Int)
theorem cntCells_snoc (XS : List (List Rec)) (k : Nat) (x : List Rec) (h : XS[k]? = some x) : cntCells (XS.take (k + 1)) = cntCells (XS.take k) ++ [.int .i64 (cntN x : Int)] := by
  rw [List.take_add_one, h]; simp [cntCells]
def sumL (XS : List (List Rec)) (k : Nat) : Nat := ((XS.take k).map List.length).sum
theorem sumL_snoc (XS : List (List Rec)) (k : Nat) (x : List Rec) (h : XS[k]? = some x) : sumL XS (k + 1) = sumL XS k + x.length := by
  unfold sumL; rw [List.take_add_one, h]; simp
theorem sumL_le (XS : List (List Rec)) (k : Nat) : sumL XS k ≤ (XS.map List.length).sum := by
  unfold sumL
  have h : XS = XS.take k ++ XS.drop k := (List.take_append_drop k XS).symm
  have : (XS.map List.length).sum = ((XS.take k).map List.length).sum + ((XS.drop k).map List.length).sum := by
    conv => lhs; rw [h]
    rw [List.map_append, List.sum_append]
  omega
theorem cnt_take (x : List Rec) (i : Nat) (r : Rec) (h : x[i]? = some r) : cntN (x.take (i + 1)) = cntN (x.take i) + (if r.keyed then 0 else 1) := by
  rw [List.take_add_one, h]; exact cntN_snoc _ _
set_option maxRecDepth 100000 in
set_option maxHeartbeats 16000000 in
theorem once_any (hawake : ∀ W, Calls Try.prog 5 #[] W fun e w' => e = .returned (.bool true) ∧ More W w') (a : Option Addr) (cap : Nat) (l : List Rec) (parts turn : Int) (w : World) (h : RecsAt w a l) (hl : l.length ≤ maxLen) (hk : ∀ x ∈ l, x.key.length ≤ maxLen ∧ x.value.length ≤ maxLen) :
    Calls Try.prog 3 #[.slice a l.length cap, .int .i64 parts, .int .i64 turn] w fun e w' => e = .returned (.bool true) ∧ More w w' := by
  obtain ⟨i0, hi, hz0, hz1, hz2⟩ := info_parts info_int2
  have HAW := Lib.hid hawake
  have HLI := Lib.hid (fun W hm => light_any a cap l W (h.more (w' := W) hm) hl hk)
  have HA := Lib.hid h
  have HP0 := Lib.hid (manyF_in parts)
  clear h hk hawake
  unfold maxLen at hl
  refine calls_wd ?_
  go_enter Try.func3, Try.ntmps3
  go_wp2_with (first
    | (go_at_call 4; ((with_reducible refine (HLI.out _ (more_wd _ _ _)).mono ?_); rintro e w2 hbr; obtain ⟨bl, rfl, ⟨x9, n9, rfl⟩, hyes⟩ := hbr.out; cases bl))
    | (go_at_call 5; ((with_reducible refine (HAW.out _).mono ?_); rintro e w1 ⟨rfl, x1, n1, rfl⟩)))
  · go_ret
    exact ⟨rfl, more_wd _ _ _⟩
  · obtain ⟨h100, hkeys⟩ := hyes trivial
    have HKE := Lib.hid hkeys
    clear hyes hkeys
    obtain ⟨P, hP⟩ : ∃ P : Nat, manyF parts = (P : Int) := ⟨(manyF parts).toNat, by have := HP0.out; omega⟩
    obtain ⟨p1, p8⟩ := HP0.out
    have hof : ∀ key, ofF key (P : Int) = ofF key parts := fun key => by rw [← hP, ofF_many]
    have hI := splitF_inv (manyF parts) (max 0 turn % manyF parts) p1 p8 ⟨Int.emod_nonneg _ (by omega), Int.emod_lt_of_pos _ (by omega)⟩ l
    have HSP := split_any a cap l parts turn (wd w [x9] n9) (HA.out.more (more_wd _ _ _)) (by omega) (fun x hx => by have := HKE.out x hx; omega)
    rw [hP] at hI HSP p1 p8
    rw [Int.toNat_natCast] at hI HSP
    generalize max 0 turn % (P : Int) = t0 at hI HSP
    generalize splitF (P : Int) l (t0, List.replicate P []) = ST at hI HSP
    obtain ⟨TT, XS⟩ := ST
    dsimp only at HSP
    have HI := Lib.hid hI
    have HOF := Lib.hid hof
    have hXL : XS.length = P := by have := hI.len; simpa using this
    have hsum : (XS.map List.length).sum = l.length := hI.sum
    have HXL := Lib.hid hXL
    have HSUM := Lib.hid hsum
    clear hP HP0 hof hI hXL hsum
    refine HSP.mono ?_
    clear HSP
    rintro e w1 hs
    obtain ⟨ao, rfl, hL, hm⟩ := hs.out
    obtain ⟨b, off, rfl, hb, hc⟩ := hL.out
    have HM : Hid (More w w1) := Lib.hid ((more_wd w [x9] n9).trans hm)
    have HC := Lib.hid hc
    have HA1 : Hid (RecsAt w1 a l) := Lib.hid (HA.out.more HM.out)
    clear hs hL hm hc HA hbr
    rw [← wd_nil w1]
    go_wp2
    go_loopw [9, 10, 11] (fun sm pv i wr => ∃ (k : Nat) (m : Ext), k ≤ P ∧ i = .int .i64 k ∧ sm = .int .i64 (sumL XS k : Nat) ∧ rowIn w1.heap.size [] m.e 3 1 pv k (cntCells (XS.take k)) ∧ wr = wd w1 [m.e] m.n) (fun _ _ i _ => P - (intOf i).toNat)
    case atStart => exact ⟨0, ⟨#[], w1.drawn⟩, Nat.zero_le _, rfl, rfl, rowIn_nil _ _ _ _ _, (wd_empty _ _ _).symm⟩
    case round =>
      obtain ⟨k, m, hk, rfl, rfl, hrow, rfl⟩ := hrel
      have HROW := Lib.hid hrow
      clear hrow
      have hsb9 : (sumL XS k : Int) ≤ 100 := by have h1 := sumL_le XS k; have h2 := HSUM.out; omega
      by_cases hlt : k < P
      · obtain ⟨x, hx⟩ : ∃ x, XS[k]? = some x := ⟨_, List.getElem?_eq_getElem (by have := HXL.out; omega)⟩
        obtain ⟨a1, c1, hc1, hr1⟩ := HC.out k (numF x) (by simp [hx])
        have HX := Lib.hid hx
        have HR1 := Lib.hid hr1
        obtain ⟨N, hN⟩ : ∃ N, x.length = N := ⟨_, rfl⟩
        rw [numF_len, hN] at hc1
        have HNX := Lib.hid hN
        have hN100 : N ≤ 100 := by have := (HI.out.sub k x hx).length_le; omega
        clear hx hr1 hN
        go_wp2
        go_loopw [12, 13, 14] (fun av nv iv wr => ∃ (i at_ : Nat) (m2 : Ext), i ≤ N ∧ iv = .int .i64 i ∧ av = .int .i64 at_ ∧ nv = .int .i64 (cntN (x.take i) : Nat) ∧ (x.drop i).Sublist (l.drop at_) ∧ wr = wd w1 [m2.e, m.e] m2.n) (fun _ _ iv _ => N - (intOf iv).toNat)
        case atStart => exact ⟨0, 0, ⟨#[], m.n⟩, Nat.zero_le _, rfl, rfl, rfl, by simpa using HI.out.sub k x HX.out, (wd_empty _ _ _).symm⟩
        case round =>
          obtain ⟨i, at_, m2, hi, rfl, rfl, rfl, hsb, rfl⟩ := hrel
          have HCNT := Lib.hid (cntN_le (x.take i))
          by_cases hlti : i < N
          · obtain ⟨r, hr⟩ : ∃ r, x[i]? = some r := ⟨_, List.getElem?_eq_getElem (by have := HNX.out; omega)⟩
            obtain ⟨b1, o1, rfl, hb1, c0, c1, c2, c3, c4, c5⟩ := recs_at HR1.out i (numR r i) (numF_get x i r hr)
            rw [drop_cons hr] at hsb
            have HSB := Lib.hid hsb
            have HCN := Lib.hid (cnt_take x i r hr)
            have hkl := HKE.out r ((HI.out.sub k x HX.out).subset (List.mem_of_getElem? hr))
            have hkd := HI.out.keyed k x HX.out r (List.mem_of_getElem? hr)
            obtain ⟨rd, rt, rk, rkey, rdead, rval⟩ := r
            dsimp only [numR] at c0 c1 c2 c3 c4 c5 hkl hkd
            clear hsb hr
            have hcn2 : (cntN (x.take i) : Int) ≤ 100 := by have h1 := HCNT.out; rw [List.length_take] at h1; omega
            generalize cntN (x.take i) = cN at hcn2 HCN
            cases rk
            · clear hkd
              go_wp2
              go_loopw [12] (fun av wr => ∃ (at_ : Nat) (m3 : Ext), av = .int .i64 at_ ∧ ((⟨rd, rt, false, rkey, rdead, rval⟩ : Rec) :: x.drop (i + 1)).Sublist (l.drop at_) ∧ wr = wd w1 [m3.e, #[Obj.cells #[Value.int IntKind.i64 (i : Int), Value.int IntKind.i64 rt, Value.bool false, Value.string (str rkey), Value.bool rdead, Value.string (str rval)] 30], m2.e, m.e] m3.n) (fun av _ => l.length - (intOf av).toNat)
              case atStart => exact ⟨at_, ⟨#[], _⟩, rfl, HSB.out, by first | rfl | exact (wd_empty _ _ _).symm⟩
              case round =>
                clear HSB
                obtain ⟨at2, m3, rfl, hsb3, rfl⟩ := hrel
                have hat := sub_lt hsb3
                obtain ⟨y, hy⟩ : ∃ y, l[at2]? = some y := ⟨_, List.getElem?_eq_getElem hat⟩
                have HT := Lib.hid (sub_take hsb3 hy)
                have HS := Lib.hid (fun hn => sub_skip (i := i) hsb3 hy hn)
                obtain ⟨b2, o2, rfl, hb2, q0, q1, q2, q3, q4, q5⟩ := recs_at HA1.out at2 y hy
                obtain ⟨yd, yt, yk, ykey, ydead, yval⟩ := y
                dsimp only at q0 q1 q2 q3 q4 q5
                have hAL : ∀ W, Calls Try.prog 8 #[.agg #[.int .i64 yd, .int .i64 yt, .bool yk, .string (str ykey), .bool ydead, .string (str yval)], .agg #[.int .i64 (i : Int), .int .i64 rt, .bool false, .string (str rkey), .bool rdead, .string (str rval)]] W fun e w' => e = .returned (.bool (alikeB ⟨yd, yt, yk, ykey, ydead, yval⟩ (numR ⟨rd, rt, false, rkey, rdead, rval⟩ i))) ∧ More W w' := fun W => alike_any ⟨yd, yt, yk, ykey, ydead, yval⟩ ⟨(i : Int), rt, false, rkey, rdead, rval⟩ W
                clear hsb3 hy
                cases hB : alikeB ⟨yd, yt, yk, ykey, ydead, yval⟩ (numR ⟨rd, rt, false, rkey, rdead, rval⟩ i)
                · rw [hB] at hAL
                  have HAL := Lib.hid hAL
                  have HS2 := Lib.hid (HS.out hB)
                  clear hAL hB HS HT
                  go_wp2
                  refine wp_region_wd (by kernel_rfl) (by kernel_rfl) ?_
                  repeat (go_big_quiet_step ((first | (go_at_call 8; with_reducible exact Calls.wd_of (HAL.out _)))))
                  refine wpQuiet_nil ?_
                  rintro _ ⟨mx, rfl⟩
                  go_wp2
                  go_roundw
                  case rel => exact ⟨at2 + 1, ⟨_, _⟩, by go_num, HS2.out, by first | rfl | exact wd_merge _ _ _ _ _⟩
                  case measure => simp [intOf]; omega
                · rw [hB] at hAL
                  have HAL := Lib.hid hAL
                  clear hAL hB HS
                  have hne : ¬ ((at2 : Int) = l.length) := by omega
                  go_wp2
                  refine wp_region_wd (by kernel_rfl) (by kernel_rfl) ?_
                  repeat (go_big_quiet_step ((first | (go_at_call 8; with_reducible exact Calls.wd_of (HAL.out _)))))
                  refine wpQuiet_nil ?_
                  rintro _ ⟨mx, rfl⟩
                  go_wp2
                  go_roundw
                  case rel => exact ⟨i + 1, at2 + 1, ⟨_, _⟩, by omega, by go_num, by go_num, by rw [HCN.out]; go_num, HT.out, by first | exact wd_merge3 _ _ _ _ _ _ | exact wd_merge4 _ _ _ _ _ _ _⟩
                  case measure => simp [intOf]; omega
            · have hpk : ofF rkey parts = (k : Int) := by rw [← HOF.out]; exact hkd rfl
              have HOFK : Hid (∀ W : World, Calls Try.prog 7 #[.string (str rkey), .int .i64 parts] W fun e w' => e = .returned (.int .i64 (k : Int)) ∧ More W w') := Lib.hid (fun W => by rw [← hpk]; exact of_any rkey parts (by omega) W)
              clear hkd hpk
              go_wp2_with (first | (go_at_call 7; ((with_reducible refine (HOFK.out _).mono ?_); rintro e w1 ⟨rfl, x1, n1, rfl⟩)))
              go_loopw [12] (fun av wr => ∃ (at_ : Nat) (m3 : Ext), av = .int .i64 at_ ∧ ((⟨rd, rt, true, rkey, rdead, rval⟩ : Rec) :: x.drop (i + 1)).Sublist (l.drop at_) ∧ wr = wd w1 [m3.e, #[Obj.cells #[Value.int IntKind.i64 (i : Int), Value.int IntKind.i64 rt, Value.bool true, Value.string (str rkey), Value.bool rdead, Value.string (str rval)] 30], m2.e, m.e] m3.n) (fun av _ => l.length - (intOf av).toNat)
              case atStart => exact ⟨at_, ⟨_, _⟩, rfl, HSB.out, rfl⟩
              case round =>
                clear HSB
                obtain ⟨at2, m3, rfl, hsb3, rfl⟩ := hrel
                have hat := sub_lt hsb3
                obtain ⟨y, hy⟩ : ∃ y, l[at2]? = some y := ⟨_, List.getElem?_eq_getElem hat⟩
                have HT := Lib.hid (sub_take hsb3 hy)
                have HS := Lib.hid (fun hn => sub_skip (i := i) hsb3 hy hn)
                obtain ⟨b2, o2, rfl, hb2, q0, q1, q2, q3, q4, q5⟩ := recs_at HA1.out at2 y hy
                obtain ⟨yd, yt, yk, ykey, ydead, yval⟩ := y
                dsimp only at q0 q1 q2 q3 q4 q5
                have hAL : ∀ W, Calls Try.prog 8 #[.agg #[.int .i64 yd, .int .i64 yt, .bool yk, .string (str ykey), .bool ydead, .string (str yval)], .agg #[.int .i64 (i : Int), .int .i64 rt, .bool true, .string (str rkey), .bool rdead, .string (str rval)]] W fun e w' => e = .returned (.bool (alikeB ⟨yd, yt, yk, ykey, ydead, yval⟩ (numR ⟨rd, rt, true, rkey, rdead, rval⟩ i))) ∧ More W w' := fun W => alike_any ⟨yd, yt, yk, ykey, ydead, yval⟩ ⟨(i : Int), rt, true, rkey, rdead, rval⟩ W
                clear hsb3 hy
                cases hB : alikeB ⟨yd, yt, yk, ykey, ydead, yval⟩ (numR ⟨rd, rt, true, rkey, rdead, rval⟩ i)
                · rw [hB] at hAL
                  have HAL := Lib.hid hAL
                  have HS2 := Lib.hid (HS.out hB)
                  clear hAL hB HS HT
                  go_wp2
                  refine wp_region_wd (by kernel_rfl) (by kernel_rfl) ?_
                  repeat (go_big_quiet_step ((first | (go_at_call 8; with_reducible exact Calls.wd_of (HAL.out _)))))
                  refine wpQuiet_nil ?_
                  rintro _ ⟨mx, rfl⟩
                  go_wp2
                  go_roundw
                  case rel => exact ⟨at2 + 1, ⟨_, _⟩, by go_num, HS2.out, by first | rfl | exact wd_merge _ _ _ _ _⟩
                  case measure => simp [intOf]; omega
                · rw [hB] at hAL
                  have HAL := Lib.hid hAL
                  clear hAL hB HS
                  have hne : ¬ ((at2 : Int) = l.length) := by omega
                  go_wp2
                  refine wp_region_wd (by kernel_rfl) (by kernel_rfl) ?_
                  repeat (go_big_quiet_step ((first | (go_at_call 8; with_reducible exact Calls.wd_of (HAL.out _)))))
                  refine wpQuiet_nil ?_
                  rintro _ ⟨mx, rfl⟩
                  go_wp2
                  go_roundw
                  case rel => exact ⟨i + 1, at2 + 1, ⟨_, _⟩, by omega, by go_num, by go_num, by rw [HCN.out]; go_num, HT.out, by first | exact wd_merge3 _ _ _ _ _ _ | exact wd_merge4 _ _ _ _ _ _ _⟩
                  case measure => simp [intOf]; omega
          · obtain rfl : i = N := by omega
            clear hsb
            rw [List.take_of_length_le (by have := HNX.out; omega)]
            have hcx : (cntN x : Int) ≤ 100 := by have h1 := cntN_le x; have h2 := HNX.out; omega
            have HCS := Lib.hid (cntCells_snoc XS k x HX.out)
            have HSS : Hid (sumL XS (k + 1) = sumL XS k + i) := Lib.hid (by rw [sumL_snoc XS k x HX.out, HNX.out])
            generalize cntN x = CX at hcx HCS
            rw [wd_merge]
            have HROW2 := Lib.hid (rowIn_more HROW.out m2.e)
            generalize m.e ++ m2.e = E0 at HROW2
            clear HROW
            go_wp2_with (first | (at_builtin; refine wp_append_row (L := []) rfl _ _ _ rfl 3 i0 _ 1 8 Try.underlying28 ‹_› hz0 hz1 hz2 rfl (by decide) _ k _ rfl HROW2.out _ _ 1 1 rfl rfl (by simp [Value.oneCell']) (by unfold maxLen; omega) (by omega) ?_; intro v9 m9 hr9; obtain ⟨a9, c9, rfl⟩ := rowIn_slice hr9))
            go_roundw
            case rel => exact ⟨k + 1, ⟨m9.e, m9.n⟩, by omega, by go_num, by rw [HSS.out]; go_num, by rw [HCS.out]; exact hr9, rfl⟩
            case measure => simp [intOf]; omega
      · obtain rfl : k = P := by omega
        have hsl : (sumL XS k : Int) = l.length := by
          have h1 := HSUM.out
          unfold sumL
          rw [List.take_of_length_le (by have := HXL.out; omega)]
          omega
        have HSL := Lib.hid hsl
        clear hsl
        obtain ⟨a10, c10, rfl, hcase⟩ := row_val HROW.out
        obtain ⟨j, rfl, hj⟩ : ∃ j, a10 = some ⟨at' w1.heap.size [] j, 0, none⟩ ∧ j < m.e.size := by
          rcases hcase with h | h
          · omega
          · exact h
        have HCE : Hid (∀ (p : Nat), p < k → ∃ x, XS[p]? = some x ∧ cellIn m.e j p = some (.int .i64 (cntN x : Int)) ∧ (cntN x : Int) ≤ 100) := Lib.hid (fun p hp => by
          obtain ⟨x, hx⟩ : ∃ x, XS[p]? = some x := ⟨_, List.getElem?_eq_getElem (by have := HXL.out; omega)⟩
          refine ⟨x, hx, ?_, ?_⟩
          · rw [row_cell HROW.out p (by omega), cntCells, List.getElem?_map, List.getElem?_take, if_pos hp, hx]; rfl
          · have h1 := (HI.out.sub p x hx).length_le; have h2 := cntN_le x; omega)
        clear hcase HROW
        rw [← wd_empty w1]
        go_wp2
        go_loopw [16] (fun pv wr => ∃ (p : Nat) (m4 : Ext), p ≤ k ∧ pv = .int .i64 p ∧ wr = wd w1 [m4.e, m.e] m4.n) (fun pv _ => k - (intOf pv).toNat)
        case atStart => exact ⟨0, ⟨#[], _⟩, Nat.zero_le _, rfl, rfl⟩
        case round =>
          obtain ⟨p, m4, hp, rfl, rfl⟩ := hrel
          by_cases hpk : p < k
          · go_wp2
            go_loopw [17] (fun ov wr => ∃ (o : Nat) (m5 : Ext), o ≤ k ∧ ov = .int .i64 o ∧ wr = wd w1 [m5.e, m.e] m5.n) (fun ov _ => k - (intOf ov).toNat)
            case atStart => exact ⟨0, m4, Nat.zero_le _, rfl, rfl⟩
            case round =>
              obtain ⟨o, m5, ho, rfl, rfl⟩ := hrel
              by_cases hok : o < k
              · obtain ⟨xp, hxp, hcp, hbp⟩ := HCE.out p hpk
                obtain ⟨xo, hxo, hco, hbo⟩ := HCE.out o hok
                have hle : ¬ ((cntN xp : Int) > (cntN xo : Int) + 1) := by
                  obtain ⟨c, hc⟩ := HI.out.cnt
                  have h1 := hc p xp hxp
                  have h2 := hc o xo hxo
                  split at h1 <;> split at h2 <;> omega
                generalize cntN xp = cp at hcp hle hbp
                generalize cntN xo = co at hco hle hbo
                clear hxp hxo
                go_wp2
                refine wp_region_wd (by kernel_rfl) (by kernel_rfl) ?_
                repeat (go_big_quiet_step ((fail)))
                refine wpQuiet_nil ?_
                rintro _ ⟨mx, rfl⟩
                go_wp2
                go_roundw
                case rel => exact ⟨o + 1, ⟨_, _⟩, by omega, by go_num, wd_merge _ _ _ _ _⟩
                case measure => simp [intOf]; omega
              · go_wp2
                go_roundw
                case rel => exact ⟨p + 1, ⟨_, _⟩, by omega, by go_num, rfl⟩
                case measure => simp [intOf]; omega
          · have hsl := HSL.out
            go_wp2_with (first | (go_at_call 5; ((with_reducible refine (HAW.out _).mono ?_); rintro e w1 ⟨rfl, x1, n1, rfl⟩)))
            go_ret
            exact ⟨rfl, HM.out.trans (more_wd _ _ _)⟩
end Go.Proofs.Ytpdmcnbbompeiaa
