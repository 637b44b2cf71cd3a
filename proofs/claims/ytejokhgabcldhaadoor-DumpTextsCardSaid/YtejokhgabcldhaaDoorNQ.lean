/- dump: Text. -/
import Derived.Test.YtejokhgabcldhaaDoorNL
import Derived.Test.YtejokhgabcldhaaDoorNJ
import Derived.Test.YtejokhgabcldhaaDoorNP
import Derived.Test.YtejokhgabcldhaaDoorNK
namespace Go.Proofs.YtejokhgabcldhaaDoor
open Go.ChangeShapes Go.WideShapes Go.ChangeAt Go.RowKit
set_option linter.unusedVariables false
set_option linter.unusedSimpArgs false

theorem wd_gap (w : World) (L : List (Array Obj)) (n : Nat) (m : Array Obj) : wd w (m :: #[] :: L) n = wd w (m :: L) n := world_ext (by simp [wd, hp]) rfl rfl rfl rfl
theorem brow_gap {w : World} {L : List (Array Obj)} {m : Array Obj} {v : Value} {l : List UInt8} : BRow w (#[] :: L) m v l ↔ BRow w L m v l := by
  have e : sz w.heap.size (shape (#[] :: L)) = sz w.heap.size (shape L) := by simp [shape, sz]
  exact ⟨rowIn_sz e, rowIn_sz e.symm⟩
/-- What WriteString leaves, the builder right beneath its bytes. -/
structure BldKept0 (w : World) (L : List (Array Obj)) (l : List UInt8) (W w' : World) : Prop where
  out : ∃ (v : Value) (m : Ext), w' = wd w (m.e :: bld (some (self w L)) v :: L) m.n ∧ BRow w (bld (some (self w L)) v :: L) m.e v l ∧ Keeps [5, 57] W w'
theorem bld_str0 (w : World) (L : List (Array Obj)) (n : Nat) (m : Array Obj) (q : Option Addr) (v : Value) (l : List UInt8) (hq : q = none ∨ q = some (self w L)) (l2 : List UInt8) (hr : BRow w (bld q v :: L) m v l) (hl : l.length ≤ 549755813888) (hl2 : l2.length ≤ 549755813888) :
    Calls Tryd.prog 35 #[.pointer (some (self w L)), .string (str l2)] (wd w (m :: bld q v :: L) n) fun x w' => x = .returned (.tuple #[.int .i64 l2.length, .nilIface]) ∧ BldKept0 w L (l ++ l2) (wd w (m :: bld q v :: L) n) w' := by
  have h := bld_strK w L n m #[] q v l hq l2 (brow_gap.2 hr) hl hl2
  rw [wd_gap] at h
  refine h.mono ?_
  rintro x w' ⟨rfl, hb⟩
  obtain ⟨v', m', rfl, hr', hk⟩ := hb.out
  rw [wd_gap] at hk ⊢
  exact ⟨rfl, ⟨v', m', rfl, brow_gap.1 hr', hk⟩⟩
theorem bld_string0 (w : World) (L : List (Array Obj)) (n : Nat) (m : Array Obj) (q : Option Addr) (v : Value) (l : List UInt8) (hq : q = none ∨ q = some (self w L)) (hr : BRow w (bld q v :: L) m v l) :
    Calls Tryd.prog 27 #[.pointer (some (self w L))] (wd w (m :: bld q v :: L) n) fun x w' => x = .returned (.string (str l)) ∧ More w w' := by
  have h := bld_string w L n m #[] q v l hq (brow_gap.2 hr)
  rw [wd_gap] at h
  exact h
/-- A text and an error, handed back. -/
structure TextRet (w w' : World) (x : Ending) (g : List UInt8 × Int) : Prop where
  out : x = .returned (.tuple #[.string (str g.1), .int .i64 g.2]) ∧ More w w'
theorem lineB_len (s : List UInt8) : (lineB s).length = s.length + 1 := by unfold lineB; simp
set_option maxRecDepth 100000 in
set_option maxHeartbeats 3200000 in
theorem dtext_any (ad : Option Addr) (cap : Nat) (l : List Btm) (w : World) (h : BatsAt w ad l) (hf : ∀ x ∈ l, x.b.recs.length ≤ maxLen) (hm : l.length ≤ maxLen) :
    Calls Tryd.prog 17 #[.slice ad l.length cap] w fun x w' => TextRet w w' x (textOf (l.map Btm.b)) := by
  have HA := Lib.hid h
  have HF := Lib.hid hf
  unfold maxLen at hm
  clear h hf
  by_cases hlong : 1000 < l.length
  · have HE := Lib.hid (textOf_long (l := l.map Btm.b) (by simpa using hlong))
    refine calls_wd ?_
    go_enter Tryd.func17, Tryd.ntmps17
    go_wp2
    go_ret2
    exact ⟨by rw [HE.out]; rfl, more_wd _ _ _⟩
  · have hsh : l.length ≤ 1000 := by omega
    have HEB := Lib.hid (fun (k : Nat) (x : Btm) (hx : l[k]? = some x) (hk : ∀ y ∈ (l.map Btm.b).take k, batCheck y = 0) (hb : batCheck x.b ≠ 0) => textOf_bad (l := l.map Btm.b) (by simpa using hsh) k x.b (by simp [hx]) hk hb)
    have HEA := Lib.hid (fun (hk : ∀ y ∈ (l.map Btm.b), batCheck y = 0) => textOf_all (l := l.map Btm.b) (by simpa using hsh) hk)
    have HMK := Lib.hid (fun (k : Nat) (x : Btm) (hx : l[k]? = some x) => (show (l.map Btm.b)[k]? = some x.b by simp [hx]))
    have HML : Hid ((l.map Btm.b).length = l.length) := Lib.hid (by simp)
    obtain ⟨bs, hbs⟩ : ∃ bs, l.map Btm.b = bs := ⟨_, rfl⟩
    rw [hbs] at HEB HEA HMK HML ⊢
    clear hbs
    refine calls_wd ?_
    go_enter Tryd.func17, Tryd.ntmps17
    go_wp2
    go_loopw [16] (fun i wr => ∃ (k : Nat) (m : Ext) (q : Option Addr) (v : Value), k ≤ l.length ∧ i = .int .i64 k ∧ wr = wd w [m.e, bld q v] m.n ∧ (q = none ∨ q = some (self w [])) ∧ BRow w [bld q v] m.e v (textB (bs.take k)) ∧ (∀ y ∈ bs.take k, batCheck y = 0)) (fun i _ => l.length - (intOf i).toNat)
    case atStart => exact ⟨0, ⟨#[], _⟩, none, .slice none 0 0, Nat.zero_le _, rfl, by rw [wd_empty], .inl rfl, rowIn_nil _ _ _ _ _, by simp⟩
    case round =>
      obtain ⟨k, m, q, v, hk, rfl, rfl, hq, hr, hck⟩ := hrel
      have HCK := Lib.hid hck
      have hlen : (textB (bs.take k)).length ≤ 198003333000 := by
        have h1 := textB_len _ HCK.out
        rw [List.length_take] at h1; omega
      obtain ⟨G, hG⟩ : ∃ G, textB (bs.take k) = G := ⟨_, rfl⟩
      rw [hG] at hr hlen
      have HG := Lib.hid hG
      have HR := Lib.hid hr
      have HQ := Lib.hid hq
      obtain ⟨av, cv, rfl⟩ := rowIn_slice hr
      clear hr hq hck hG
      by_cases hlt : k < l.length
      · obtain ⟨x, hx⟩ : ∃ x, l[k]? = some x := ⟨_, List.getElem?_eq_getElem hlt⟩
        have HB := Lib.hid (HMK.out k x hx)
        have HEK := Lib.hid (HEB.out k x hx HCK.out)
        obtain ⟨bb, off, rfl, hb, c0, c1, c2, c3, c4, c5⟩ := bats_at HA.out k x hx
        have HAT := Lib.hid (HA.out.each x (List.mem_of_getElem? hx))
        have HDB := Lib.hid (fun W g => dbatch_any x.b x.a x.cap W g (HF.out x (List.mem_of_getElem? hx)))
        clear hx
        obtain ⟨b, a, c⟩ := x
        dsimp only at HAT HDB HB HEK c0 c1 c2 c3 c4 c5
        by_cases hbc : batCheck b = 0
        · have HBC := Lib.hid hbc
          have hML : (batLines b).length ≤ 33 := by
            obtain ⟨g1, g2, g3⟩ := batCheck_ok hbc
            have := (batNum_ok g1).2.2.2.2.2.2.2.2.2.2
            have := (batNum_ok g1).2.1
            rw [batLines_len]; omega
          have HEL := Lib.hid (batLines_each hbc)
          have HTL := Lib.hid (batText_len hbc)
          rw [batLs_ok hbc] at HDB
          have HSN := Lib.hid (show textB (bs.take (k + 1)) = G ++ (batLines b).flatMap lineB by rw [take_get bs k b HB.out, textB_snoc, HG.out])
          have HCN := Lib.hid (take_ok (p := fun y => batCheck y = 0) HCK.out HB.out hbc)
          obtain ⟨ML, hMLe⟩ : ∃ ML, batLines b = ML := ⟨_, rfl⟩
          rw [hMLe] at HDB hML HEL HTL HSN
          clear hMLe hbc
          obtain ⟨b0, b1, b2, b3, b4, rs⟩ := b
          dsimp only at *
          go_wp2_with (first | (go_at_call 13; ((with_reducible refine (HDB.out _ (HAT.out.more (more_wd _ _ _))).mono ?_); rintro e w1 hlr; obtain ⟨al, cl, rfl, hst, hlc, x1, n1, rfl⟩ := hlr.out; clear hlr; have HT := Lib.hid hst; clear hst)))
          have hT2 := HT.out
          rw [wd_plus, wd_merge3] at hT2
          clear HT
          go_loopw [30] (fun i wr => ∃ (j : Nat) (m' : Ext) (q' : Option Addr) (v' : Value), j ≤ ML.length ∧ i = .int .i64 j ∧ wr = wd w [m'.e, bld q' v'] m'.n ∧ (q' = none ∨ q' = some (self w [])) ∧ BRow w [bld q' v'] m'.e v' (G ++ (ML.take j).flatMap lineB) ∧ TRow strCell 9 (wd w [m'.e, bld q' v'] m'.n) al ML) (fun i _ => ML.length - (intOf i).toNat)
          case atStart => exact ⟨0, ⟨m.e ++ (bbox b0 b1 b2 b3 b4 a rs.length c ++ x1), n1⟩, q, _, Nat.zero_le _, rfl, by rw [wd_merge3], HQ.out, by rw [List.take_zero, List.flatMap_nil, List.append_nil]; exact rowIn_more HR.out _, hT2⟩
          case round =>
            clear hT2
            obtain ⟨j, m2, q2, v2, hj, rfl, rfl, hq2, hr2, ht2⟩ := hrel
            have hlen2 : (G ++ (ML.take j).flatMap lineB).length ≤ 300000000000 := by
              have h1 : ((ML.take j).flatMap lineB).length ≤ (ML.flatMap lineB).length := by
                conv => rhs; rw [← List.take_append_drop j ML, List.flatMap_append, List.length_append]
                omega
              have h2 := HTL.out
              rw [List.length_append]; omega
            have HCUT := Lib.hid (fun (hje : j = ML.length) => (show textB (bs.take (k + 1)) = G ++ (ML.take j).flatMap lineB by rw [hje, List.take_length]; exact HSN.out))
            obtain ⟨G2, hG2⟩ : ∃ G2, G ++ (ML.take j).flatMap lineB = G2 := ⟨_, rfl⟩
            rw [hG2] at hr2 hlen2 HCUT
            have HR2 := Lib.hid hr2
            have HQ2 := Lib.hid hq2
            have HT2 := Lib.hid ht2
            obtain ⟨av2, cv2, rfl⟩ := rowIn_slice hr2
            clear hr2 hq2 ht2
            by_cases hjl : j < ML.length
            · obtain ⟨s, hs⟩ : ∃ s, ML[j]? = some s := ⟨_, List.getElem?_eq_getElem hjl⟩
              have hsl := HEL.out s (List.mem_of_getElem? hs)
              obtain ⟨sb, so, rfl, hsb, hcell⟩ := strs_at (HT2.out.at strCell_len) j s hs
              have hsn : G ++ (ML.take (j + 1)).flatMap lineB = G2 ++ (s ++ [10]) := by rw [take_get ML j s hs, List.flatMap_append, ← List.append_assoc, hG2]; simp [lineB]
              obtain ⟨Z, hZ⟩ : ∃ Z, s ++ [10] = Z := ⟨_, rfl⟩
              have hZl : Z.length = s.length + 1 := by rw [← hZ]; simp
              have e1 := sadd' (P := Tryd.prog) hZ (by omega)
              rw [show str [10] = { data := #[10] } from rfl] at e1
              rw [hZ] at hsn
              have HSN2 := Lib.hid hsn
              have hZm : Z.length ≤ 6000101 := by omega
              clear hs hsn hZ hG2 hsl hsb hZl
              go_wp2_with (first | (go_at_call 35; refine (bld_str0 w [] _ _ q2 _ _ HQ2.out Z HR2.out (by omega) (by omega)).mono ?_; rintro x w2 ⟨rfl, hb⟩; obtain ⟨v3, m3, rfl, hr3, hk3⟩ := hb.out; have HR3 := Lib.hid hr3; have HT3 := Lib.hid (HT2.out.keeps hk3 (by decide)); clear hr3 hb hk3))
              go_roundw
              case rel => exact ⟨j + 1, m3, some (self w []), v3, by omega, by go_num, rfl, .inr rfl, by rw [HSN2.out]; exact HR3.out, HT3.out⟩
              case measure => simp [intOf]; omega
            · have hje : j = ML.length := by omega
              have HD := Lib.hid (HCUT.out hje)
              clear hG2
              go_wp2
              go_roundw
              case rel => exact ⟨k + 1, m2, q2, _, by omega, by go_num, rfl, HQ2.out, by rw [HD.out]; exact HR2.out, HCN.out⟩
              case measure => simp [intOf]; omega
        · have HE := Lib.hid (HEK.out hbc)
          rw [batLs_no hbc] at HDB
          obtain ⟨E, hE⟩ : ∃ E, batCheck b = E := ⟨_, rfl⟩
          rw [hE] at HDB HE hbc
          have hc' : ((E == 0) = false) := by rw [beq_eq_false_iff_ne]; exact hbc
          have hc2 : (E != 0) = true := by rw [bne_iff_ne]; exact hbc
          clear hbc hE
          obtain ⟨b0, b1, b2, b3, b4, rs⟩ := b
          dsimp only at *
          go_wp2_with (first | (go_at_call 13; ((with_reducible refine (HDB.out _ (HAT.out.more (more_wd _ _ _))).mono ?_); rintro e w1 hlr; obtain ⟨al, cl, rfl, hst, hlc, x1, n1, rfl⟩ := hlr.out; clear hlr hst)))
          go_ret2
          exact ⟨by rw [HE.out]; rfl, more_wd _ _ _⟩
      · have hke : k = l.length := by omega
        have hbt : bs.take k = bs := List.take_of_length_le (by rw [HML.out]; omega)
        have hE := HEA.out (hbt ▸ HCK.out)
        have hG2 := HG.out
        rw [hbt] at hG2
        rw [hG2] at hE
        have HE := Lib.hid hE
        clear hE hG2 hbt
        go_wp2_with (first | (go_at_call 27; refine (bld_string0 w [] _ _ q _ _ HQ.out HR.out).mono ?_; rintro x w2 ⟨rfl, x9, n9, rfl⟩))
        go_ret2
        exact ⟨by rw [HE.out]; rfl, _, _, rfl⟩
end Go.Proofs.YtejokhgabcldhaaDoor
