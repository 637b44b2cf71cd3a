/- dump: the reference's Text. -/
import Derived.Test.YtejokhgabcldhaaDoorNS
import Derived.Test.YtejokhgabcldhaaDoorNQ
namespace Go.Proofs.YtejokhgabcldhaaDoor
open Go.ChangeShapes Go.WideShapes Go.ChangeAt Go.RowKit
set_option linter.unusedVariables false
set_option linter.unusedSimpArgs false

set_option maxRecDepth 100000 in
set_option maxHeartbeats 3200000 in
theorem rdtext_any (ad : Option Addr) (cap : Nat) (l : List Btm) (w : World) (h : BatsAt w ad l) (hf : ∀ x ∈ l, x.b.recs.length ≤ maxLen) (hm : l.length ≤ maxLen) :
    Calls Tryd.prog 18 #[.slice ad l.length cap] w fun x w' => TextRet w w' x (textOf (l.map Btm.b)) := by
  have HA := Lib.hid h
  have HF := Lib.hid hf
  unfold maxLen at hm
  clear h hf
  by_cases hlong : 1000 < l.length
  · have HE := Lib.hid (textOf_long (l := l.map Btm.b) (by simpa using hlong))
    refine calls_wd ?_
    go_enter Tryd.func18, Tryd.ntmps18
    go_wp2
    go_ret2
    exact ⟨by rw [HE.out]; rfl, more_wd _ _ _⟩
  · have hsh : l.length ≤ 1000 := by omega
    have HEB := Lib.hid (fun (k : Nat) (x : Btm) (hx : l[k]? = some x) (hk : ∀ y ∈ (l.map Btm.b).take k, batCheck y = 0) (hb : batCheck x.b ≠ 0) => textOf_bad (l := l.map Btm.b) (by simpa using hsh) k x.b (by simp [hx]) hk hb)
    have HEA := Lib.hid (fun (hk : ∀ y ∈ (l.map Btm.b), batCheck y = 0) => textOf_all (l := l.map Btm.b) (by simpa using hsh) hk)
    have HMK := Lib.hid (fun (k : Nat) (x : Btm) (hx : l[k]? = some x) => (show (l.map Btm.b)[k]? = some x.b by simp [hx]))
    have HML : Hid ((l.map Btm.b).length = l.length) := Lib.hid (by simp)
    obtain ⟨bs, hbs⟩ : ∃ bs, l.map Btm.b = bs := ⟨_, rfl⟩
    rw [hbs] at HEB HEA HMK HML ⊢
    clear hbs
    refine calls_wd ?_
    go_enter Tryd.func18, Tryd.ntmps18
    go_wp2
    go_loopw [4, 5] (fun s i wr => ∃ (k : Nat) (m : Ext) (G : List UInt8), k ≤ l.length ∧ i = .int .i64 k ∧ s = .string (str G) ∧ wr = wd w [m.e] m.n ∧ Hid (textB (bs.take k) = G) ∧ Hid (∀ y ∈ bs.take k, batCheck y = 0)) (fun _ i _ => l.length - (intOf i).toNat)
    case atStart => exact ⟨0, ⟨#[], _⟩, [], Nat.zero_le _, rfl, rfl, by rw [wd_empty], Lib.hid rfl, Lib.hid (by simp)⟩
    case round =>
      obtain ⟨k, m, G, hk, rfl, rfl, rfl, HG, HCK⟩ := hrel
      have hlen : G.length ≤ 198003333000 := by
        rw [← HG.out]
        have h1 := textB_len _ HCK.out
        rw [List.length_take] at h1; omega
      by_cases hlt : k < l.length
      · obtain ⟨x, hx⟩ : ∃ x, l[k]? = some x := ⟨_, List.getElem?_eq_getElem hlt⟩
        have HB := Lib.hid (HMK.out k x hx)
        have HEK := Lib.hid (HEB.out k x hx HCK.out)
        obtain ⟨bb, off, rfl, hb, c0, c1, c2, c3, c4, c5⟩ := bats_at HA.out k x hx
        have HAT := Lib.hid (HA.out.each x (List.mem_of_getElem? hx))
        have HDB := Lib.hid (fun W g => rbatch_any x.b x.a x.cap W g (HF.out x (List.mem_of_getElem? hx)))
        clear hx
        obtain ⟨b, a, c⟩ := x
        dsimp only at HAT HDB HB HEK c0 c1 c2 c3 c4 c5
        by_cases hbc : batCheck b = 0
        · have HBC := Lib.hid hbc
          have hML : (batLines b).length ≤ 33 := by
            obtain ⟨g1, g2, g3⟩ := batCheck_ok hbc
            have := (batNum_ok g1).2.2.2.2.2.2.2.2.2.2
            have := (batNum_ok g1).2.1
            rw [batLines_len]; omega
          have HEL := Lib.hid (batLines_each hbc)
          have HTL := Lib.hid (batText_len hbc)
          rw [batLs_ok hbc] at HDB
          have HSN := Lib.hid (show textB (bs.take (k + 1)) = G ++ (batLines b).flatMap lineB by rw [take_get bs k b HB.out, textB_snoc, HG.out])
          have HCN := Lib.hid (take_ok (p := fun y => batCheck y = 0) HCK.out HB.out hbc)
          obtain ⟨ML, hMLe⟩ : ∃ ML, batLines b = ML := ⟨_, rfl⟩
          rw [hMLe] at HDB hML HEL HTL HSN
          clear hMLe hbc
          obtain ⟨b0, b1, b2, b3, b4, rs⟩ := b
          dsimp only at *
          go_wp2_with (first | (go_at_call 14; ((with_reducible refine (HDB.out _ (HAT.out.more (more_wd _ _ _))).mono ?_); rintro e w1 hlr; obtain ⟨al, cl, rfl, hst, hlc, x1, n1, rfl⟩ := hlr.out; clear hlr; have HT := Lib.hid hst; clear hst)))
          go_loopw [4, 8] (fun s i wr => ∃ (j : Nat) (m' : Ext) (G2 : List UInt8), j ≤ ML.length ∧ i = .int .i64 j ∧ s = .string (str G2) ∧ wr = wd w [m'.e] m'.n ∧ Hid (G ++ (ML.take j).flatMap lineB = G2) ∧ TRow strCell 9 (wd w [m'.e] m'.n) al ML) (fun _ i _ => ML.length - (intOf i).toNat)
          case atStart => exact ⟨0, ⟨m.e ++ x1, n1⟩, G, Nat.zero_le _, rfl, rfl, by rw [wd_merge], Lib.hid (by simp), by have h2 := HT.out; (first | rw [wd_plus, wd_merge] at h2 | rw [wd_merge] at h2); exact h2⟩
          case round =>
            clear HT
            obtain ⟨j, m2, G2, hj, rfl, rfl, rfl, HG2, ht2⟩ := hrel
            have hlen2 : G2.length ≤ 300000000000 := by
              rw [← HG2.out]
              have h1 : ((ML.take j).flatMap lineB).length ≤ (ML.flatMap lineB).length := by
                conv => rhs; rw [← List.take_append_drop j ML, List.flatMap_append, List.length_append]
                omega
              have h2 := HTL.out
              rw [List.length_append]; omega
            have HT2 := Lib.hid ht2
            clear ht2
            by_cases hjl : j < ML.length
            · obtain ⟨s, hs⟩ : ∃ s, ML[j]? = some s := ⟨_, List.getElem?_eq_getElem hjl⟩
              have hsl := HEL.out s (List.mem_of_getElem? hs)
              obtain ⟨sb, so, rfl, hsb, hcell⟩ := strs_at (HT2.out.at strCell_len) j s hs
              have hsn : G ++ (ML.take (j + 1)).flatMap lineB = G2 ++ s ++ [10] := by rw [take_get ML j s hs, List.flatMap_append, ← List.append_assoc, HG2.out]; simp [lineB]
              obtain ⟨Z, hZ⟩ : ∃ Z, G2 ++ s = Z := ⟨_, rfl⟩
              have hZl : Z.length = G2.length + s.length := by rw [← hZ]; simp
              have e1 := sadd' (P := Tryd.prog) hZ (by omega)
              rw [hZ] at hsn
              obtain ⟨Y, hY⟩ : ∃ Y, Z ++ [10] = Y := ⟨_, rfl⟩
              have hYl : Y.length = Z.length + 1 := by rw [← hY]; simp
              have e2 := sadd' (P := Tryd.prog) hY (by omega)
              rw [show str [10] = { data := #[10] } from rfl] at e2
              rw [hY] at hsn
              have HSN2 := Lib.hid hsn
              clear hs hsn hZ hY hsl hsb hZl hYl
              go_wp2
              go_roundw
              case rel => exact ⟨j + 1, m2, Y, by omega, by go_num, rfl, rfl, Lib.hid HSN2.out, HT2.out⟩
              case measure => simp [intOf]; omega
            · have hje : j = ML.length := by omega
              have HD := Lib.hid (show textB (bs.take (k + 1)) = G2 by rw [HSN.out, ← HG2.out, hje, List.take_length])
              go_wp2
              go_roundw
              case rel => exact ⟨k + 1, m2, G2, by omega, by go_num, rfl, rfl, Lib.hid HD.out, Lib.hid HCN.out⟩
              case measure => simp [intOf]; omega
        · have HE := Lib.hid (HEK.out hbc)
          rw [batLs_no hbc] at HDB
          obtain ⟨E, hE⟩ : ∃ E, batCheck b = E := ⟨_, rfl⟩
          rw [hE] at HDB HE hbc
          have hc' : ((E == 0) = false) := by rw [beq_eq_false_iff_ne]; exact hbc
          have hc2 : (E != 0) = true := by rw [bne_iff_ne]; exact hbc
          clear hbc hE
          obtain ⟨b0, b1, b2, b3, b4, rs⟩ := b
          dsimp only at *
          go_wp2_with (first | (go_at_call 14; ((with_reducible refine (HDB.out _ (HAT.out.more (more_wd _ _ _))).mono ?_); rintro e w1 hlr; obtain ⟨al, cl, rfl, hst, hlc, x1, n1, rfl⟩ := hlr.out; clear hlr hst)))
          go_ret2
          exact ⟨by rw [HE.out]; rfl, more_wd _ _ _⟩
      · have hke : k = l.length := by omega
        have hbt : bs.take k = bs := List.take_of_length_le (by rw [HML.out]; omega)
        have hE := HEA.out (hbt ▸ HCK.out)
        have hG2 := HG.out
        rw [hbt] at hG2
        rw [hG2] at hE
        have HE := Lib.hid hE
        clear hE hG2 hbt
        go_wp2
        go_ret2
        exact ⟨by rw [HE.out]; rfl, more_wd _ _ _⟩
end Go.Proofs.YtejokhgabcldhaaDoor
