/- What is light: told yes or no. -/
import Derived.Test.YtejokhgabcldhaaMV2
import Derived.Test.YtejokhgabcldhaaME
import Derived.Test.YtejokhgabcldhaaMX
namespace Go.Proofs.Ytejokhgabcldhaa
open Go.ChangeShapes Go.WideShapes Go.ChangeAt Go.RowKit
set_option linter.unusedVariables false
set_option linter.unusedSimpArgs false

/-- Yes, and then p, or no. -/
structure YesRet (w w' : World) (x : Ending) (p : Prop) : Prop where
  out : ∃ b, x = .returned (.bool b) ∧ More w w' ∧ (b = true → p)
set_option maxRecDepth 100000 in
set_option maxHeartbeats 1600000 in
theorem light_req (q : Req) (a : Option Addr) (cap : Nat) (w : World) (hr : RecsAt w a q.batch.recs) (hm : q.batch.recs.length ≤ maxLen) (h1 : q.topic.length ≤ maxLen) (h2 : q.group.length ≤ maxLen) (h3 : q.member.length ≤ maxLen) :
    Calls Try.prog 48 #[.agg (rq q a cap)] w fun x w' => BoolRet w w' x := by
  unfold maxLen at h1 h2 h3
  have s1 := str_size q.topic
  have s2 := str_size q.group
  have s3 := str_size q.member
  have HR := Lib.hid hr
  have HB := Lib.hid (fun W h => light_bat q.batch a cap W h hm)
  clear hr hm
  refine calls_wd ?_
  go_enter Try.func48, Try.ntmps48
  go_wp2_with (first | (go_at_call 85; ((with_reducible refine (HB.out _ (HR.out.more (more_wd _ _ _))).mono ?_); rintro e w2 hbr; obtain ⟨bl, rfl, x9, n9, rfl⟩ := hbr.out)))
  all_goals (go_ret; exact bret_wd _ _ _ _)
set_option maxRecDepth 100000 in
set_option maxHeartbeats 1600000 in
theorem light_stms (ad : Option Addr) (cap : Nat) (l : List Stm) (most : Int) (w : World) (h : StmsAt w ad l) (hf : ∀ x ∈ l, StpFit x.s) (hm : l.length ≤ maxLen) (hmost : most ≤ 1000000) :
    Calls Try.prog 10 #[.slice ad l.length cap, .int .i64 most] w fun x w' => YesRet w w' x ((l.length : Int) ≤ most) := by
  have HA := Lib.hid h
  have HF := Lib.hid hf
  unfold maxLen at hm
  clear h hf
  by_cases hl : most < l.length
  · refine calls_wd ?_
    go_enter Try.func10, Try.ntmps10
    go_wp2
    go_ret
    exact ⟨false, rfl, more_wd _ _ _, fun h => by cases h⟩
  · have hl2 : (l.length : Int) ≤ most := by omega
    refine calls_wd ?_
    go_enter Try.func10, Try.ntmps10
    go_wp2
    go_loopw [5] (fun i wr => ∃ (k : Nat) (m : Ext), k ≤ l.length ∧ i = .int .i64 k ∧ wr = wd w [m.e] m.n) (fun i _ => l.length - (intOf i).toNat)
    case atStart => exact ⟨0, ⟨#[], _⟩, Nat.zero_le _, rfl, by rw [wd_empty]⟩
    case round =>
      obtain ⟨k, m, hk, rfl, rfl⟩ := hrel
      by_cases hlt : k < l.length
      · obtain ⟨x, hx⟩ : ∃ x, l[k]? = some x := ⟨_, List.getElem?_eq_getElem hlt⟩
        obtain ⟨b, off, rfl, hb, hld, hc, hc2⟩ := load_row_q (P := Try.prog) HA.out.row k x hx
        have hmem := List.mem_of_getElem? hx
        have HAT := Lib.hid (HA.out.each x hmem)
        have hfit := HF.out x hmem
        have HLQ := Lib.hid (fun W h => light_req x.s.q x.a x.cap W h hfit.r hfit.t hfit.g hfit.m)
        have hfl : x.s.fate.length ≤ 9223372036854775807 := by
          obtain ⟨a', c', hv, g1, g2, _⟩ := HAT.out.f
          unfold maxLen at g2; omega
        clear hx hmem hfit hc2
        obtain ⟨s, a, c, f, fc⟩ := x
        dsimp only at HAT HLQ hld hc hfl
        by_cases hfate : 200 < s.fate.length
        · go_wp2_with (first | (go_at_call 48; ((with_reducible refine (HLQ.out _ (HAT.out.r.more (more_wd _ _ _))).mono ?_); rintro e w2 hbr; obtain ⟨bl, rfl, x9, n9, rfl⟩ := hbr.out; cases bl)))
          all_goals (go_ret; exact ⟨_, rfl, more_wd _ _ _, fun _ => hl2⟩)
        · have hfate2 : (s.fate.length : Int) ≤ 200 := by omega
          go_wp2_with (first | (go_at_call 48; ((with_reducible refine (HLQ.out _ (HAT.out.r.more (more_wd _ _ _))).mono ?_); rintro e w2 hbr; obtain ⟨bl, rfl, x9, n9, rfl⟩ := hbr.out; cases bl)))
          · go_ret
            exact ⟨_, rfl, more_wd _ _ _, fun _ => hl2⟩
          · go_roundw
            case rel => exact ⟨k + 1, ⟨_, _⟩, by omega, by go_num, wd_merge _ _ _ _ _⟩
            case measure => simp [intOf]; omega
      · go_wp2
        go_ret
        exact ⟨_, rfl, more_wd _ _ _, fun _ => hl2⟩
end Go.Proofs.Ytejokhgabcldhaa
/- script: Get of the program. -/
namespace Go.Proofs.Ytejokhgabcldhaa
open Go.ChangeShapes Go.WideShapes Go.ChangeAt Go.RowKit
set_option linter.unusedVariables false
set_option linter.unusedSimpArgs false

theorem info_stp : (Try.prog.info? 36).map (fun i => (i.zero, i.size, i.bytes)) = some (some (.agg (stp (stpBlank 0) none 0 none 0)), 22, 224) := by kernel_rfl
/-- Steps and an error, handed back. -/
structure StmsRet (w w' : World) (x : Ending) (g : List Stp × Int) : Prop where
  out : ∃ (a : Option Addr) (cap : Nat) (l : List Stm), x = .returned (.tuple #[.slice a l.length cap, .int .i64 g.2]) ∧ l.map Stm.s = g.1 ∧ StmsAt w' a l ∧ More w w'
theorem stmsret_no {w : World} {L : List (Array Obj)} {n : Nat} {x : Ending} {g : List Stp × Int} (hg : g = ([], 4)) (hx : x = .returned (.tuple #[.slice none 0 0, .int .i64 4])) : StmsRet w (wd w L n) x g := by
  subst hg hx
  exact ⟨none, 0, [], rfl, rfl, StmsAt.nil _ _, more_wd _ _ _⟩
theorem took_stms {w w' : World} {m : Array Obj} {L : List (Array Obj)} {n p : Nat} {vr : Value} {sl sl' : List UInt8} {e e' : Int} {row : Option Nat} {acc : List Stm} (hp : p = sz w.heap.size (shape L)) (hv : RB (wd w (m :: rbk vr e :: L) n) vr sl) (hs : StmsBy (wd w (m :: rbk vr e :: L) n) row acc)
    (h : Took (wd w (m :: rbk vr e :: L) n) w' p vr sl sl' e') : ∃ v' M, (∀ W0, RB W0 vr sl → RB W0 v' sl') ∧ w' = wd w (Ext.e M :: m :: rbk v' e' :: L) M.n ∧ StmsBy w' row acc := by
  obtain ⟨v', hk, M, rfl⟩ := h.out
  have hr : Rdr (wd w (m :: rbk vr e :: L) n) p vr e := by subst hp; exact rdr_push (Rdr.here w L n _ rfl vr e)
  refine ⟨v', M, hk, ?_, (hs.rset hr hv.nu hv.nb v' e').more ⟨_, _, rfl⟩⟩
  subst hp
  rw [rset_wd_past _ _ _ _ _ _ _ _ rfl (by simp [shape, inn]), rset_wd w L n _ _ _ _ _ _ _ rfl rfl, onTop_wd, wd_plus]
theorem stpsDec_step {f : Nat} {sl tl tb : List UInt8} {te : Int} (hf : 0 < f) (hne : sl ≠ []) (hT : txt sl 0 65536 = (tl, te, tb)) : stpsDec f sl 0 = (stpGet tb).1 :: stpsDec (f - 1) tl te := by
  obtain ⟨f, rfl⟩ : ∃ g, f = g + 1 := ⟨f - 1, by omega⟩
  show (if sl ≠ [] ∧ (0 : Int) = 0 then _ else _) = _
  rw [if_pos ⟨hne, rfl⟩, hT]
  rfl
theorem stpsDec_end {f : Nat} {sl : List UInt8} {e : Int} (h : f = 0 ∨ sl = [] ∨ e ≠ 0) : stpsDec f sl e = [] := by
  rcases h with rfl | rfl | h
  · rfl
  · exact stpsDec_nil f e
  · cases f with
    | zero => rfl
    | succ f => unfold stpsDec; rw [if_neg (fun h2 => h h2.2)]
theorem stms_row {w : World} {L : List (Array Obj)} {n : Nat} {m : Array Obj} {E : TypeId} {a : Option Addr} {cap : Nat} {acc : List Stm} (h : rowIn w.heap.size (shape L) m E 22 (.slice a acc.length cap) acc.length (acc.flatMap stmCells)) : RowAt stmCells 22 (wd w (m :: L) n) a acc :=
  RowAt.of_rd (rdrow_of_row h)
/-- Where Get stands behind k steps. -/
structure GetSt (b : List UInt8) (D : List Stp) (k : Nat) (sl : List UInt8) (acc : List Stm) : Prop where
  len : acc.length = k
  dec : D = acc.map Stm.s ++ stpsDec (1001 - k) sl 0
  lay : stpsPut D = (b, 0) → sl = stpsLay (D.drop k)
  fit : ∀ x ∈ acc, StpFit x.s
theorem GetSt.next {b : List UInt8} {D : List Stp} {k : Nat} {sl tl : List UInt8} {acc : List Stm} {x : Stm} (h : GetSt b D k sl acc) (hd : stpsDec (1001 - k) sl 0 = x.s :: stpsDec (1001 - (k + 1)) tl 0) (hn : stpsPut D = (b, 0) → tl = stpsLay (D.drop (k + 1))) (hf : StpFit x.s) : GetSt b D (k + 1) tl (acc ++ [x]) := by
  refine ⟨by simp [h.len], h.dec.trans (by rw [hd]; simp), hn, fun y hy => ?_⟩
  rcases List.mem_append.1 hy with hy | hy
  · exact h.fit y hy
  · simp at hy; subst hy; exact hf
theorem stm_snoc (acc : List Stm) (s : Stp) (a : Option Addr) (c : Nat) (f : Option Addr) (d : Nat) : (acc ++ [(⟨s, a, c, f, d⟩ : Stm)]).flatMap stmCells = acc.flatMap stmCells ++ (stp s a c f d).toList := by rw [flat_snoc, stm_toList]
set_option maxRecDepth 100000 in
set_option maxHeartbeats 6400000 in
theorem getstms_any (v : Value) (b : List UInt8) (w : World) (hv : RB w v b) (hl : b.length ≤ 1099511627776) : Calls Try.prog 21 #[v] w fun x w' => StmsRet w w' x (stpsGet b) := by
  obtain ⟨i0, hi, hz0, hz1, hz2⟩ := info_parts info_stp
  have HV := Lib.hid hv
  obtain ⟨D, hD⟩ : ∃ D, stpsDec 1001 b 0 = D := ⟨_, rfl⟩
  have HG : Hid (stpsGet b = if stpsPut D = (b, 0) then (D, 0) else ([], 4)) := Lib.hid (by unfold stpsGet; rw [hD])
  have HDF : Hid (∀ s ∈ D, StpFit s) := Lib.hid (hD ▸ stpsDec_fit 1001 b 0)
  have HDD := Lib.hid hD
  have HNO : Hid (stpsPut D ≠ (b, 0) → stpsGet b = ([], 4)) := Lib.hid (fun h => by rw [HG.out, if_neg h])
  clear hv hD
  refine calls_wd ?_
  go_enter Try.func21, Try.ntmps21
  go_wp2_with (first
    | (go_at_call 61; ((with_reducible refine (new_any v b _ (HV.out.more (more_wd _ _ _)) hl).mono ?_); rintro x w1 hnr; obtain ⟨v0, m0, rfl, hr0, rfl⟩ := hnr.wd; clear hnr; have HO := Lib.hid (ownRd (w := w) (c := m0.e) (L := []) (p := sz w.heap.size [m0.e.size]) (v0 := v0) (l := b) rfl hr0); clear hr0)))
  go_loopg [5] 1001 (fun g sv wr => ∃ (k : Nat) (m : Ext) (vr : Value) (sl : List UInt8) (a : Option Addr) (cap : Nat) (acc : List Stm), k + g = 1001 ∧ sv = .slice a k cap ∧ Hid (GetSt b D k sl acc) ∧ Hid (∀ W0, RB W0 v0 b → RB W0 vr sl) ∧ Hid (rowIn w.heap.size [1, m0.e.size] m.e 36 22 (.slice a k cap) k (acc.flatMap stmCells)) ∧ Hid (StmsBy wr (Value.slice a k cap).ownBlock acc) ∧
    wr = wd w [m.e, rbk vr 0, m0.e] m.n)
  case atStart => exact ⟨0, ⟨#[], _⟩, v0, b, none, 0, [], by omega, rfl, Lib.hid ⟨rfl, by rw [HDD.out]; rfl, fun h => (stpsPut_ok h).2.2.2, fun x hx => by simp at hx⟩, Lib.hid (fun _ h => h), Lib.hid (rowIn_nil _ _ _ _ _), Lib.hid (StmsBy.nil _ _), by rw [wd_empty]⟩
  case round =>
    obtain ⟨k, m, vr, sl, a, cap, acc, hkg, rfl, HC, HKP, HROW, HST, rfl⟩ := hrel
    by_cases hgo : sl ≠ [] ∧ k ≤ 1000
    · obtain ⟨hne, hk⟩ := hgo
      have hpos : (0 : Int) < sl.length := by have := List.length_pos_iff.2 hne; omega
      have hk2 : (k : Int) ≤ 1000 := by omega
      obtain ⟨T, hT⟩ : ∃ T, txt sl 0 65536 = T := ⟨_, rfl⟩
      have HTX := Lib.hid (fun p W h1 h2 => hT ▸ txt_any p vr sl 0 65536 (by decide) W h1 h2)
      have htl : T.2.2.length ≤ 65536 := by have := txt_len sl 0 65536 (by decide); rw [hT] at this; omega
      have HDS : Hid (stpsDec (1001 - k) sl 0 = (stpGet T.2.2).1 :: stpsDec (1001 - (k + 1)) T.1 T.2.1) := Lib.hid (by have := stpsDec_step (f := 1001 - k) (tl := T.1) (te := T.2.1) (tb := T.2.2) (by omega) hne hT; rw [this]; congr 2)
      have HNX : Hid (stpsPut D = (b, 0) → T.2.1 = 0 ∧ (stpGet T.2.2).2 = 0 ∧ T.1 = stpsLay (D.drop (k + 1))) := Lib.hid (fun h => by have := stps_step HDF.out h (HC.out.lay h) hne; rw [hT] at this; exact this)
      clear hT hne
      obtain ⟨tl, te, tb⟩ := T
      dsimp only at HTX htl HDS HNX
      have HGS := Lib.hid (fun V W h => getstp_any V tb W h (by omega))
      have HFG := Lib.hid (stpGet_fit tb)
      generalize stpGet tb = G at HGS HDS HNX HFG
      obtain ⟨gs, ge⟩ := G
      dsimp only at HGS HDS HNX HFG
      have htl2 : tb.length ≤ 1099511627776 := by omega
      by_cases hge : ge = 0
      · subst hge
        by_cases hte : te = 0
        · subst hte
          go_wp2_with (first
            | (go_at_call 69; ((with_reducible refine (left_any _ vr sl 0 _ (HO.out.r1 _ _ _ _) (HO.out.b1 _ _ _ _ _ _ HKP.out)).mono ?_); rintro e w1 ⟨rfl, rfl⟩))
            | (go_at_call 70; ((with_reducible refine (HTX.out _ _ (HO.out.r1 _ _ _ _) (HO.out.b1 _ _ _ _ _ _ HKP.out)).mono ?_); rintro x w1 ⟨rfl, ht⟩; obtain ⟨v9, m9, hk9, rfl, hst9⟩ := took_stms rfl (HO.out.b1 _ _ _ _ _ _ HKP.out) HST.out ht; have HK9 := Lib.hid (keep_trans HKP.out hk9); have HST9 := Lib.hid hst9; clear ht hk9 hst9))
            | (show wpList _ _ _ (⟨_, .convert _ _ _, _, _, _, _⟩ :: _) _ _; refine at_conv rfl _ rfl rfl htl2 ?_; intro ad9 cc9 m2 hrb; have HRB := Lib.hid hrb; clear hrb)
            | (go_at_call 19; ((with_reducible refine (HGS.out _ _ (HRB.out _)).mono ?_); rintro x w2 hsr; obtain ⟨a9, c9, f9, d9, rfl, hat9, ⟨x9, n9, rfl⟩, hfr9, hff9⟩ := hsr.out; have HAT9 := Lib.hid hat9; have HFR9 := Lib.hid hfr9; have HFF9 := Lib.hid hff9; clear hat9 hfr9 hff9 hsr))
            | (go_at_call 71; ((with_reducible refine (err_any _ v9 0 _ (rdr_push (HO.out.r4 _ _ _ _ _ _ _))).mono ?_); rintro e w1 ⟨rfl, rfl⟩))
            | (at_builtin; refine wp_append_rowGD [sbk gs a9 c9 f9 d9 36, x9, m2.e, m9.e] rfl _ _ _ rfl 36 i0 _ 22 224 Try.underlying42 hi hz0 hz1 hz2 (stp_size _ _ _ _ _) (by decide) (.slice a k cap) k _ rfl HROW.out _ _ 1 1 rfl (stp_size _ _ _ _ _) (stp_one _ _ _ _ _) (by unfold maxLen; omega) (by omega) ?_; intro v8 m8 hr8 hg8; obtain ⟨a8, c8, rfl⟩ := rowIn_slice hr8))
          have HGN := Lib.hid (HC.out.next (x := ⟨gs, a9, c9, f9, d9⟩) HDS.out (fun h => (HNX.out h).2.2) HFG.out)
          have HS8 := Lib.hid (((HST9.out.more (more_cons (more_cons (more_cons (more_cons (more_same _ _ _ _)))))).snoc (x := ⟨gs, a9, c9, f9, d9⟩) (HAT9.out.more (more_cons (more_cons (more_same _ _ _ _)))) (apart_from HFR9.out (row_ltD [m2.e, m9.e] (L := [rbk v9 0, m0.e]) HROW.out)) (apart_from HFF9.out (row_ltD [m2.e, m9.e] (L := [rbk v9 0, m0.e]) HROW.out))).grew hg8)
          have HR8 : Hid (rowIn w.heap.size [1, m0.e.size] m8.e 36 22 (.slice a8 (k + 1) c8) (k + 1) ((acc ++ [(⟨gs, a9, c9, f9, d9⟩ : Stm)]).flatMap stmCells)) := Lib.hid (by rw [stm_snoc]; exact hr8)
          clear hr8 hg8
          go_roundg (gk - 1)
          case measure => omega
          case rel => exact ⟨k + 1, m8, v9, tl, a8, c8, acc ++ [⟨gs, a9, c9, f9, d9⟩], by omega, rfl, HGN, HK9, HR8, HS8, rfl⟩
        · have HX := Lib.hid (HNO.out (fun h => hte (HNX.out h).1))
          have hne : (te == 0) = false := by rw [beq_eq_false_iff_ne]; exact hte
          go_wp2_with (first
            | (go_at_call 69; ((with_reducible refine (left_any _ vr sl 0 _ (HO.out.r1 _ _ _ _) (HO.out.b1 _ _ _ _ _ _ HKP.out)).mono ?_); rintro e w1 ⟨rfl, rfl⟩))
            | (go_at_call 70; ((with_reducible refine (HTX.out _ _ (HO.out.r1 _ _ _ _) (HO.out.b1 _ _ _ _ _ _ HKP.out)).mono ?_); rintro x w1 ⟨rfl, ht⟩; obtain ⟨v9, m9, hk9, rfl, hst9⟩ := took_stms rfl (HO.out.b1 _ _ _ _ _ _ HKP.out) HST.out ht; have HK9 := Lib.hid (keep_trans HKP.out hk9); have HST9 := Lib.hid hst9; clear ht hk9 hst9))
            | (show wpList _ _ _ (⟨_, .convert _ _ _, _, _, _, _⟩ :: _) _ _; refine at_conv rfl _ rfl rfl htl2 ?_; intro ad9 cc9 m2 hrb; have HRB := Lib.hid hrb; clear hrb)
            | (go_at_call 19; ((with_reducible refine (HGS.out _ _ (HRB.out _)).mono ?_); rintro x w2 hsr; obtain ⟨a9, c9, f9, d9, rfl, hat9, ⟨x9, n9, rfl⟩, hfr9, hff9⟩ := hsr.out; have HAT9 := Lib.hid hat9; have HFR9 := Lib.hid hfr9; have HFF9 := Lib.hid hff9; clear hat9 hfr9 hff9 hsr))
            | (go_at_call 71; ((with_reducible refine (err_any _ v9 te _ (rdr_push (HO.out.r4 _ _ _ _ _ _ _))).mono ?_); rintro e w1 ⟨rfl, rfl⟩)))
          all_goals exact bodyPost_ret (v := .tuple #[.slice none 0 0, .int .i64 4]) (by simp [results, Try.results21, go_sem]) rfl (stmsret_no HX.out rfl)
      · have HX := Lib.hid (HNO.out (fun h => hge (HNX.out h).2.1))
        have hne : (ge == 0) = false := by rw [beq_eq_false_iff_ne]; exact hge
        go_wp2_with (first
          | (go_at_call 69; ((with_reducible refine (left_any _ vr sl 0 _ (HO.out.r1 _ _ _ _) (HO.out.b1 _ _ _ _ _ _ HKP.out)).mono ?_); rintro e w1 ⟨rfl, rfl⟩))
          | (go_at_call 70; ((with_reducible refine (HTX.out _ _ (HO.out.r1 _ _ _ _) (HO.out.b1 _ _ _ _ _ _ HKP.out)).mono ?_); rintro x w1 ⟨rfl, ht⟩; obtain ⟨v9, m9, hk9, rfl, hst9⟩ := took_stms rfl (HO.out.b1 _ _ _ _ _ _ HKP.out) HST.out ht; have HK9 := Lib.hid (keep_trans HKP.out hk9); have HST9 := Lib.hid hst9; clear ht hk9 hst9))
          | (show wpList _ _ _ (⟨_, .convert _ _ _, _, _, _, _⟩ :: _) _ _; refine at_conv rfl _ rfl rfl htl2 ?_; intro ad9 cc9 m2 hrb; have HRB := Lib.hid hrb; clear hrb)
          | (go_at_call 19; ((with_reducible refine (HGS.out _ _ (HRB.out _)).mono ?_); rintro x w2 hsr; obtain ⟨a9, c9, f9, d9, rfl, hat9, ⟨x9, n9, rfl⟩, hfr9, hff9⟩ := hsr.out; have HAT9 := Lib.hid hat9; have HFR9 := Lib.hid hfr9; have HFF9 := Lib.hid hff9; clear hat9 hfr9 hff9 hsr))
          | (go_at_call 71; ((with_reducible refine (err_any _ v9 te _ (rdr_push (HO.out.r4 _ _ _ _ _ _ _))).mono ?_); rintro e w1 ⟨rfl, rfl⟩)))
        all_goals exact bodyPost_ret (v := .tuple #[.slice none 0 0, .int .i64 4]) (by simp [results, Try.results21, go_sem]) rfl (stmsret_no HX.out rfl)
    · have HEND : Hid (D = acc.map Stm.s) := Lib.hid (by
        have h1 := HC.out.dec
        rw [stpsDec_end (by by_cases h : sl = []; exact .inr (.inl h); exact .inl (by have : ¬ k ≤ 1000 := fun h2 => hgo ⟨h, h2⟩; omega)), List.append_nil] at h1
        exact h1)
      have hcs : (sl.length : Int) ≤ 0 ∨ ((0 : Int) < sl.length ∧ 1000 < (k : Int)) := by
        by_cases h : sl = []
        · left; rw [h]; decide
        · right
          have h2 := List.length_pos_iff.2 h
          exact ⟨by omega, by have : ¬ k ≤ 1000 := fun h2 => hgo ⟨h, h2⟩; omega⟩
      clear hgo
      have hlk := HC.out.len
      subst hlk
      have hkm : acc.length ≤ maxLen := by unfold maxLen; omega
      have HPUT := Lib.hid (fun W h => putstms_any a cap acc W h HC.out.fit hkm)
      have HAT : Hid (∀ n, StmsAt (wd w [m.e, rbk vr 0, m0.e] n) a acc) := Lib.hid (fun n => ⟨stms_row (L := [rbk vr 0, m0.e]) HROW.out, fun x hx => (HST.out.each x hx).1.more (more_same _ _ _ _)⟩)
      rw [← HEND.out] at HPUT
      obtain ⟨P, hP⟩ : ∃ P, stpsPut D = P := ⟨_, rfl⟩
      have HPP := Lib.hid hP
      rw [hP] at HPUT
      clear hP hkm
      obtain ⟨pl, pe⟩ := P
      dsimp only at HPUT
      have hacc : (acc.length : Int) ≤ 1001 := by omega
      by_cases hpe : pe = 0
      · subst hpe
        by_cases hpl : b = pl
        · have HX : Hid (stpsGet b = (D, 0)) := Lib.hid (by rw [HG.out, if_pos (by rw [HPP.out, hpl])])
          have hdec : decide (b = pl) = true := decide_eq_true hpl
          clear hpl
          rcases hcs with hc | ⟨hc, hc2⟩
          all_goals
            go_wp2_with (first
              | (go_at_call 69; ((with_reducible refine (left_any _ vr sl 0 _ (HO.out.r1 _ _ _ _) (HO.out.b1 _ _ _ _ _ _ HKP.out)).mono ?_); rintro e w1 ⟨rfl, rfl⟩))
              | (go_at_call 16; ((with_reducible refine (HPUT.out _ (HAT.out _)).mono ?_); rintro e w2 ⟨u9, rfl, hm9⟩; obtain ⟨p9, rfl, hs9⟩ := hm9.wd; clear hm9; have HU := Lib.hid (RB.of_row (L := [m.e, rbk vr 0, m0.e]) (k := p9.n) hs9 _ rfl); clear hs9))
              | (go_at_call 57; ((with_reducible refine (equal_any v u9 b pl _ (HV.out.more (more_wd _ _ _)) HU.out).mono ?_); rintro e w1 ⟨rfl, rfl⟩)))
            refine bodyPost_ret (v := .tuple #[.slice a acc.length cap, .int .i64 0]) (by simp [results, Try.results21, go_sem]) rfl ?_
            rw [HX.out]
            exact ⟨a, cap, acc, rfl, HEND.out.symm, (HAT.out 0).more (more_cons (more_same _ _ _ _)), more_wd _ _ _⟩
        · have HX : Hid (stpsGet b = ([], 4)) := Lib.hid (HNO.out (by rw [HPP.out]; intro h; exact hpl (congrArg Prod.fst h).symm))
          have hdec : decide (b = pl) = false := decide_eq_false hpl
          clear hpl
          rcases hcs with hc | ⟨hc, hc2⟩
          all_goals
            go_wp2_with (first
              | (go_at_call 69; ((with_reducible refine (left_any _ vr sl 0 _ (HO.out.r1 _ _ _ _) (HO.out.b1 _ _ _ _ _ _ HKP.out)).mono ?_); rintro e w1 ⟨rfl, rfl⟩))
              | (go_at_call 16; ((with_reducible refine (HPUT.out _ (HAT.out _)).mono ?_); rintro e w2 ⟨u9, rfl, hm9⟩; obtain ⟨p9, rfl, hs9⟩ := hm9.wd; clear hm9; have HU := Lib.hid (RB.of_row (L := [m.e, rbk vr 0, m0.e]) (k := p9.n) hs9 _ rfl); clear hs9))
              | (go_at_call 57; ((with_reducible refine (equal_any v u9 b pl _ (HV.out.more (more_wd _ _ _)) HU.out).mono ?_); rintro e w1 ⟨rfl, rfl⟩)))
            exact bodyPost_ret (v := .tuple #[.slice none 0 0, .int .i64 4]) (by simp [results, Try.results21, go_sem]) rfl (stmsret_no HX.out rfl)
      · have HX : Hid (stpsGet b = ([], 4)) := Lib.hid (HNO.out (by rw [HPP.out]; intro h; exact hpe (congrArg Prod.snd h)))
        have hne : (pe == 0) = false := by rw [beq_eq_false_iff_ne]; exact hpe
        rcases hcs with hc | ⟨hc, hc2⟩
        all_goals
          go_wp2_with (first
            | (go_at_call 69; ((with_reducible refine (left_any _ vr sl 0 _ (HO.out.r1 _ _ _ _) (HO.out.b1 _ _ _ _ _ _ HKP.out)).mono ?_); rintro e w1 ⟨rfl, rfl⟩))
            | (go_at_call 16; ((with_reducible refine (HPUT.out _ (HAT.out _)).mono ?_); rintro e w2 ⟨u9, rfl, hm9⟩; obtain ⟨p9, rfl, hs9⟩ := hm9.wd; clear hm9; have HU := Lib.hid (RB.of_row (L := [m.e, rbk vr 0, m0.e]) (k := p9.n) hs9 _ rfl); clear hs9))
            | (go_at_call 57; ((with_reducible refine (equal_any v u9 b pl _ (HV.out.more (more_wd _ _ _)) HU.out).mono ?_); rintro e w1 ⟨rfl, rfl⟩)))
          all_goals exact bodyPost_ret (v := .tuple #[.slice none 0 0, .int .i64 4]) (by simp [results, Try.results21, go_sem]) rfl (stmsret_no HX.out rfl)
end Go.Proofs.Ytejokhgabcldhaa
/- script: Put of the reference. -/
namespace Go.Proofs.Ytejokhgabcldhaa
open Go.ChangeShapes Go.WideShapes Go.ChangeAt Go.RowKit
set_option linter.unusedVariables false
set_option linter.unusedSimpArgs false

set_option maxRecDepth 100000 in
set_option maxHeartbeats 3200000 in
theorem rputstms_any (ad : Option Addr) (cap : Nat) (l : List Stm) (w : World) (h : StmsAt w ad l) (hf : ∀ x ∈ l, StpFit x.s) (hm : l.length ≤ maxLen) :
    Calls Try.prog 18 #[.slice ad l.length cap] w fun x w' => BRet w w' x (stpsPut (l.map Stm.s)).1 (stpsPut (l.map Stm.s)).2 := by
  have HA := Lib.hid h
  have HF := Lib.hid hf
  have HF2 : Hid (∀ s ∈ l.map Stm.s, StpFit s) := Lib.hid (by intro s hs; obtain ⟨x, hx, rfl⟩ := List.mem_map.1 hs; exact hf x hx)
  have HG : Hid (∀ (k : Nat) (x : Stm), l[k]? = some x → (l.map Stm.s)[k]? = some x.s) := Lib.hid (by intro k x hx; simp [hx])
  have hlen : (l.map Stm.s).length = l.length := by simp
  unfold maxLen at hm
  generalize l.map Stm.s = S at *
  by_cases hbig : 1000 < l.length
  · have HP := Lib.hid (stpsPut_long (l := S) (by omega))
    clear h hf hlen
    refine calls_wd ?_
    go_enter Try.func18, Try.ntmps18
    go_wp2
    exact bodyPost_ret (v := .tuple #[.slice none 0 0, .int .i64 5]) (by simp [results, Try.results18, go_sem]) rfl ⟨_, by rw [HP.out], by rw [HP.out]; exact bmade_nil _ _ _⟩
  · have hl2 : (l.length : Int) ≤ 1000 := by omega
    have HB : Hid (¬ 1000 < S.length) := Lib.hid (by omega)
    have HLL := Lib.hid (fun k => stpsLay_len (S.take k) (fun s hs => HF2.out s (List.mem_of_mem_take hs)))
    have HLEN := Lib.hid hlen
    clear h hf hlen
    refine calls_wd ?_
    go_enter Try.func18, Try.ntmps18
    go_wp2
    go_loopw [4, 5] (fun v i wr => ∃ (k : Nat) (m : Ext), k ≤ l.length ∧ i = .int .i64 k ∧ Hid (∀ y ∈ S.take k, (stpPut y).2 = 0) ∧ Hid (BRow w [] m.e v (stpsLay (S.take k))) ∧ wr = wd w [m.e] m.n) (fun _ i _ => l.length - (intOf i).toNat)
    case atStart => exact ⟨0, ⟨#[], w.drawn⟩, Nat.zero_le _, rfl, Lib.hid (by simp), Lib.hid (by simpa [stpsLay] using brow_nil w [] #[]), by rw [wd_empty]⟩
    case round =>
      obtain ⟨k, m, hk, rfl, HOK, HROW, rfl⟩ := hrel
      obtain ⟨va, vc, rfl⟩ := rowIn_slice HROW.out
      have hll := HLL.out k
      have htk : (S.take k).length ≤ 1000 := by rw [List.length_take]; omega
      by_cases hlt : k < l.length
      · obtain ⟨x, hx⟩ : ∃ x, l[k]? = some x := ⟨_, List.getElem?_eq_getElem hlt⟩
        obtain ⟨b, off, rfl, hb, hld⟩ := load_row (P := Try.prog) HA.out.row k x hx
        have HXS := Lib.hid (HG.out k x hx)
        have hmem := List.mem_of_getElem? hx
        have HAT := Lib.hid (HA.out.each x hmem)
        have hfit := HF.out x hmem
        have hpl := stpPut_len hfit
        obtain ⟨P, hP⟩ : ∃ P, stpPut x.s = P := ⟨_, rfl⟩
        have HPUT := Lib.hid (fun W h => hP ▸ rst_any x.s x.a x.cap x.f x.fc W hfit h)
        have HPE := Lib.hid hP
        rw [hP] at hpl
        clear hP hx hmem hfit
        obtain ⟨s, a, c, f, fc⟩ := x
        obtain ⟨pl, pe⟩ := P
        dsimp only at hpl HAT HPUT HXS HPE hld
        by_cases hpe : pe = 0
        · subst hpe
          have HL2 : Hid (stpsLay (S.take (k + 1)) = stpsLay (S.take k) ++ textL pl) := Lib.hid (by rw [take_get S k s HXS.out, stpsLay_snoc, HPE.out])
          have htl := textL_len (s := pl) hpl (by decide)
          go_wp2_with (first
            | (go_at_call 13; ((with_reducible refine (HPUT.out _ (HAT.out.more (more_wd _ _ _))).mono ?_); rintro e w2 ⟨u9, rfl, hm9⟩; obtain ⟨p9, rfl, hs9⟩ := hm9.wd; clear hm9; have hcv := (RB.of_row (L := [m.e]) (k := p9.n) hs9 _ rfl).run_str (P := Try.prog) 28 9 5 Try.underlying28 Try.underlying5 Try.underlying9; clear hs9))
            | (go_at_call 60; ((with_reducible refine (rtexts_any pl (by omega) _).mono ?_); rintro e w1 ⟨v8, rfl, x1⟩; obtain ⟨m8, rfl, hr8⟩ := x1.wd; clear x1))
            | (at_builtin; refine at_appendD [p9.e] rfl _ _ rfl rfl HROW.out rfl hr8 (by omega) ?_; clear hr8; intro v' m' hr'))
          go_roundw
          case rel => exact ⟨k + 1, m', by omega, by go_num, Lib.hid (take_all_snoc HXS.out HOK.out (by rw [HPE.out])), Lib.hid (by rw [HL2.out]; exact hr'), rfl⟩
          case measure => simp [intOf]; omega
        · have HX : Hid (stpsPut S = ([], pe)) := Lib.hid (by rw [stpsPut_err HB.out k s HXS.out HOK.out (by rw [HPE.out]; exact hpe), HPE.out])
          have hne : (pe == 0) = false := by rw [beq_eq_false_iff_ne]; exact hpe
          go_wp2_with (first
            | (go_at_call 13; ((with_reducible refine (HPUT.out _ (HAT.out.more (more_wd _ _ _))).mono ?_); rintro e w2 ⟨u9, rfl, hm9⟩; obtain ⟨p9, rfl, hs9⟩ := hm9.wd; clear hm9 hs9)))
          exact bodyPost_ret (v := .tuple #[.slice none 0 0, .int .i64 pe]) (by simp [results, Try.results18, go_sem]) rfl ⟨_, by rw [HX.out], by rw [HX.out]; exact bmade_nil _ _ _⟩
      · have HT : Hid (S.take k = S) := Lib.hid (List.take_of_length_le (by have := HLEN.out; omega))
        rw [HT.out] at HROW HOK hll ⊢
        obtain ⟨N, hN⟩ : ∃ N, (stpsLay S).length = N := ⟨_, rfl⟩
        have HN := Lib.hid hN
        rw [hN] at hll ⊢
        by_cases hb : 65536 < N
        · have HX := Lib.hid (stpsPut_big HB.out HOK.out (by rw [HN.out]; exact hb))
          clear hN
          go_wp2
          exact bodyPost_ret (v := .tuple #[.slice none 0 0, .int .i64 5]) (by simp [results, Try.results18, go_sem]) rfl ⟨_, by rw [HX.out], by rw [HX.out]; exact bmade_nil _ _ _⟩
        · have HX := Lib.hid (stpsPut_fine HB.out HOK.out (by rw [HN.out]; exact hb))
          have hb2 : (N : Int) ≤ 65536 := by omega
          clear hN
          go_wp2
          exact bodyPost_ret (v := .tuple #[.slice va N vc, .int .i64 0]) (by simp [results, Try.results18, go_sem]) rfl ⟨_, by rw [HX.out], by rw [HX.out]; rw [← HN.out]; exact bmade_of HROW.out⟩
end Go.Proofs.Ytejokhgabcldhaa
/- script: Get of the reference. -/
namespace Go.Proofs.Ytejokhgabcldhaa
open Go.ChangeShapes Go.WideShapes Go.ChangeAt Go.RowKit
set_option linter.unusedVariables false
set_option linter.unusedSimpArgs false

theorem info_rstp : (Try.prog.info? 30).map (fun i => (i.zero, i.size, i.bytes)) = some (some (.agg (stp (stpBlank 0) none 0 none 0)), 22, 224) := by kernel_rfl
theorem StmsBy.rdr {w : World} {p0 : Array Obj} {L : List (Array Obj)} {n n' : Nat} {v v' : Value} {e e' : Int} {T : TypeId} {row : Option Nat} {l : List Stm} (hv : ∀ n, v ≠ .int .u8 n) (hb : ∀ x, v ≠ .bool x)
    (h : StmsBy (wd w (p0 :: #[.cells #[v, .int .i64 e] T] :: L) n) row l) : StmsBy (wd w (p0 :: #[.cells #[v', .int .i64 e'] T] :: L) n') row l := by
  have h1 := h.other (w' := bset (wd w (p0 :: #[.cells #[v, .int .i64 e] T] :: L) n) (sz w.heap.size (shape L)) (.cells #[v', .int .i64 e'] T)) (bset_size _ _ _) (fun b hb => bset_other _ _ _ _ hb) (deep_push (own_top w L n _)) hv hb
  rw [bset_wd_past _ _ _ _ _ _ _ rfl (by simp [shape, inn]), bset_wd _ _ _ _ _ _ _ rfl rfl] at h1
  simp only [onTop_wd] at h1
  exact h1.more (more_same _ _ _ _)
/-- Where the reference's Get stands behind k steps. -/
structure GetSr (D : List Stp) (k : Nat) (sl : List UInt8) (se : Int) (acc : List Stm) : Prop where
  len : acc.length = k
  dec : D = acc.map Stm.s ++ stpsDec (1001 - k) sl se
  fit : ∀ x ∈ acc, StpFit x.s
theorem GetSr.next {D : List Stp} {k : Nat} {sl tl : List UInt8} {te : Int} {acc : List Stm} {x : Stm} (h : GetSr D k sl 0 acc) (hd : stpsDec (1001 - k) sl 0 = x.s :: stpsDec (1001 - (k + 1)) tl te) (hf : StpFit x.s) : GetSr D (k + 1) tl te (acc ++ [x]) := by
  refine ⟨by simp [h.len], h.dec.trans (by rw [hd]; simp), fun y hy => ?_⟩
  rcases List.mem_append.1 hy with hy | hy
  · exact h.fit y hy
  · simp at hy; subst hy; exact hf
set_option maxRecDepth 100000 in
set_option maxHeartbeats 6400000 in
theorem rgetstms_any (v : Value) (b : List UInt8) (w : World) (hv : RB w v b) (hl : b.length ≤ 1099511627776) : Calls Try.prog 22 #[v] w fun x w' => StmsRet w w' x (stpsGet b) := by
  obtain ⟨i0, hi, hz0, hz1, hz2⟩ := info_parts info_rstp
  have HV0 := Lib.hid hv
  obtain ⟨D, hD⟩ : ∃ D, stpsDec 1001 b 0 = D := ⟨_, rfl⟩
  have HG : Hid (stpsGet b = if stpsPut D = (b, 0) then (D, 0) else ([], 4)) := Lib.hid (by unfold stpsGet; rw [hD])
  have HDF : Hid (∀ s ∈ D, StpFit s) := Lib.hid (hD ▸ stpsDec_fit 1001 b 0)
  have HDD := Lib.hid hD
  have HNO : Hid (stpsPut D ≠ (b, 0) → stpsGet b = ([], 4)) := Lib.hid (fun h => by rw [HG.out, if_neg h])
  clear hD
  obtain ⟨a0, cap0, rfl, hcap0, hm0, -⟩ := hv
  have HV : Hid (RB w (.slice a0 b.length cap0) b) := HV0
  clear HV0
  refine calls_wd ?_
  go_enter Try.func22, Try.ntmps22
  go_wp2
  go_loopg [5] 1001 (fun g sv wr => ∃ (k : Nat) (m : Ext) (ra : Option Addr) (rc : Nat) (sl : List UInt8) (se : Int) (a : Option Addr) (cap : Nat) (acc : List Stm), k + g = 1001 ∧ sv = .slice a k cap ∧ Hid (GetSr D k sl se acc) ∧ Hid (∀ W0, RB W0 (.slice a0 b.length cap0) b → RB W0 (.slice ra sl.length rc) sl) ∧ Hid (rowIn w.heap.size [1] m.e 30 22 (.slice a k cap) k (acc.flatMap stmCells)) ∧ Hid (StmsBy wr (Value.slice a k cap).ownBlock acc) ∧
    wr = wd w [m.e, #[.cells #[.slice ra sl.length rc, .int .i64 se] 118]] m.n)
  case atStart => exact ⟨0, ⟨#[], _⟩, a0, cap0, b, 0, none, 0, [], by omega, rfl, Lib.hid ⟨rfl, by rw [HDD.out]; rfl, fun x hx => by simp at hx⟩, Lib.hid (fun _ h => h), Lib.hid (rowIn_nil _ _ _ _ _), Lib.hid (StmsBy.nil _ _), by rw [wd_empty]⟩
  case round =>
    obtain ⟨k, m, ra, rc, sl, se, a, cap, acc, hkg, rfl, HC, HKP, HROW, HST, rfl⟩ := hrel
    by_cases hgo : sl ≠ [] ∧ se = 0 ∧ k ≤ 1000
    · obtain ⟨hne, rfl, hk⟩ := hgo
      have hpos : (0 : Int) < sl.length := by have := List.length_pos_iff.2 hne; omega
      have hk2 : (k : Int) ≤ 1000 := by omega
      obtain ⟨T, hT⟩ : ∃ T, txt sl 0 65536 = T := ⟨_, rfl⟩
      have HTX := Lib.hid (fun V W h1 => hT ▸ rtxt_any V sl 0 65536 (by decide) W h1)
      have htl : T.2.2.length ≤ 65536 := by have := txt_len sl 0 65536 (by decide); rw [hT] at this; omega
      have HDS : Hid (stpsDec (1001 - k) sl 0 = (stpGet T.2.2).1 :: stpsDec (1001 - (k + 1)) T.1 T.2.1) := Lib.hid (by have := stpsDec_step (f := 1001 - k) (tl := T.1) (te := T.2.1) (tb := T.2.2) (by omega) hne hT; rw [this]; congr 2)
      clear hT hne
      obtain ⟨tl, te, tb⟩ := T
      dsimp only at HTX htl HDS
      have HGS := Lib.hid (fun V W h => rgetstp_any V tb W h (by omega))
      have HFG := Lib.hid (stpGet_fit tb)
      generalize stpGet tb = G at HGS HDS HFG
      obtain ⟨gs, ge⟩ := G
      dsimp only at HGS HDS HFG
      have htl2 : tb.length ≤ 1099511627776 := by omega
      go_wp2_with (first
        | (go_at_call 72; (with_reducible refine (HTX.out _ _ (HKP.out _ (HV.out.more (more_wd w _ _)))).mono ?_); rintro x w1 ⟨v1, rfl, hb1, x1, n1, rfl⟩; have HK9 := Lib.hid (keep_trans HKP.out hb1); obtain ⟨a1, cap1, rfl, hc1, hm1, hr1⟩ := HK9.out w HV.out; clear hb1 hr1)
        | (show wpList _ _ _ (⟨_, .convert _ _ _, _, _, _, _⟩ :: _) _ _; refine at_conv rfl _ rfl rfl htl2 ?_; intro ad9 cc9 m2 hrb; have HRB := Lib.hid hrb; clear hrb)
        | (go_at_call 20; ((with_reducible refine (HGS.out _ _ (HRB.out _)).mono ?_); rintro x w2 hsr; obtain ⟨a9, c9, f9, d9, rfl, hat9, ⟨x9, n9, rfl⟩, hfr9, hff9⟩ := hsr.out; have HAT9 := Lib.hid hat9; have HFR9 := Lib.hid hfr9; have HFF9 := Lib.hid hff9; clear hat9 hfr9 hff9 hsr))
        | (at_builtin; refine wp_append_rowGD [sbk gs a9 c9 f9 d9 30, x9, m2.e, x1] rfl _ _ _ rfl 30 i0 _ 22 224 Try.underlying22 hi hz0 hz1 hz2 (stp_size _ _ _ _ _) (by decide) (.slice a k cap) k _ rfl HROW.out _ _ 1 1 rfl (stp_size _ _ _ _ _) (stp_one _ _ _ _ _) (by unfold maxLen; omega) (by omega) ?_; intro v8 m8 hr8 hg8; obtain ⟨a8, c8, rfl⟩ := rowIn_slice hr8))
      have HGN := Lib.hid (HC.out.next (x := ⟨gs, a9, c9, f9, d9⟩) HDS.out HFG.out)
      have HST9 : Hid (StmsBy (wd w [m.e, #[.cells #[.slice a1 tl.length cap1, .int .i64 te] 118]] 0) (Value.slice a k cap).ownBlock acc) := Lib.hid (HST.out.rdr (by intro n h; cases h) (by intro n h; cases h))
      have HS8 := Lib.hid (((HST9.out.more (more_cons (more_cons (more_cons (more_cons (more_cons (more_same _ _ _ _))))))).snoc (x := ⟨gs, a9, c9, f9, d9⟩) (HAT9.out.more (more_cons (more_cons (more_same _ _ _ _)))) (apart_from HFR9.out (row_ltD [m2.e, x1] (L := [#[.cells #[.slice a1 tl.length cap1, .int .i64 te] 118]]) HROW.out)) (apart_from HFF9.out (row_ltD [m2.e, x1] (L := [#[.cells #[.slice a1 tl.length cap1, .int .i64 te] 118]]) HROW.out))).grew hg8)
      have HR8 : Hid (rowIn w.heap.size [1] m8.e 30 22 (.slice a8 (k + 1) c8) (k + 1) ((acc ++ [(⟨gs, a9, c9, f9, d9⟩ : Stm)]).flatMap stmCells)) := Lib.hid (by rw [stm_snoc]; exact hr8)
      clear hr8 hg8
      go_roundg (gk - 1)
      case measure => omega
      case rel => exact ⟨k + 1, m8, a1, cap1, tl, te, a8, c8, acc ++ [⟨gs, a9, c9, f9, d9⟩], by omega, rfl, HGN, HK9, HR8, HS8, rfl⟩
    · have HEND : Hid (D = acc.map Stm.s) := Lib.hid (by
        have h1 := HC.out.dec
        rw [stpsDec_end (by
          by_cases h : sl = []
          · exact .inr (.inl h)
          · by_cases h2 : se = 0
            · exact .inl (by have : ¬ k ≤ 1000 := fun h3 => hgo ⟨h, h2, h3⟩; omega)
            · exact .inr (.inr h2)), List.append_nil] at h1
        exact h1)
      have hcs : (sl.length : Int) ≤ 0 ∨ ((0 : Int) < sl.length ∧ (se == 0) = false) ∨ ((0 : Int) < sl.length ∧ (se == 0) = true ∧ 1000 < (k : Int)) := by
        by_cases h : sl = []
        · left; rw [h]; decide
        · right
          have h2 := List.length_pos_iff.2 h
          by_cases h3 : se = 0
          · right; exact ⟨by omega, by rw [beq_iff_eq]; exact h3, by have : ¬ k ≤ 1000 := fun h4 => hgo ⟨h, h3, h4⟩; omega⟩
          · left; exact ⟨by omega, by rw [beq_eq_false_iff_ne]; exact h3⟩
      clear hgo
      have hlk := HC.out.len
      subst hlk
      have hkm : acc.length ≤ maxLen := by unfold maxLen; omega
      have HPUT := Lib.hid (fun W h => rputstms_any a cap acc W h HC.out.fit hkm)
      have HAT : Hid (∀ n, StmsAt (wd w [m.e, #[.cells #[.slice ra sl.length rc, .int .i64 se] 118]] n) a acc) := Lib.hid (fun n => ⟨stms_row (L := [#[.cells #[.slice ra sl.length rc, .int .i64 se] 118]]) HROW.out, fun x hx => (HST.out.each x hx).1.more (more_same _ _ _ _)⟩)
      rw [← HEND.out] at HPUT
      obtain ⟨P, hP⟩ : ∃ P, stpsPut D = P := ⟨_, rfl⟩
      have HPP := Lib.hid hP
      rw [hP] at HPUT
      clear hP hkm
      obtain ⟨pl, pe⟩ := P
      dsimp only at HPUT
      have hacc : (acc.length : Int) ≤ 1001 := by omega
      by_cases hpe : pe = 0
      · subst hpe
        by_cases hpl : pl = b
        · have HX : Hid (stpsGet b = (D, 0)) := Lib.hid (by rw [HG.out, if_pos (by rw [HPP.out, hpl])])
          have hq1 : ((str pl).toList == (str b).toList) = true := (str_beq _ _).trans (decide_eq_true hpl)
          have hq2 : ((str pl).toList != (str b).toList) = false := by rw [bne, hq1]; rfl
          clear hpl
          rcases hcs with hc | ⟨hc, hc2⟩ | ⟨hc, hc2, hc3⟩
          all_goals
            go_wp2_with (first
              | (go_at_call 18; ((with_reducible refine (HPUT.out _ (HAT.out _)).mono ?_); rintro e w2 ⟨u9, rfl, hm9⟩; obtain ⟨p9, rfl, hs9⟩ := hm9.wd; clear hm9; have hu := (RB.of_row (L := [m.e, #[.cells #[.slice ra sl.length rc, .int .i64 se] 118]]) (k := p9.n) hs9 _ rfl).run_str (P := Try.prog) 28 9 5 Try.underlying28 Try.underlying5 Try.underlying9; have hv9 := (HV.out.more (more_wd w (p9.e :: [m.e, #[.cells #[.slice ra sl.length rc, .int .i64 se] 118]]) p9.n)).run_str (P := Try.prog) 28 9 5 Try.underlying28 Try.underlying5 Try.underlying9; clear hs9)))
            refine bodyPost_ret (v := .tuple #[.slice a acc.length cap, .int .i64 0]) (by simp [results, Try.results22, go_sem]) rfl ?_
            rw [HX.out]
            exact ⟨a, cap, acc, rfl, HEND.out.symm, (HAT.out 0).more (more_cons (more_same _ _ _ _)), more_wd _ _ _⟩
        · have HX : Hid (stpsGet b = ([], 4)) := Lib.hid (HNO.out (by rw [HPP.out]; intro h; exact hpl (congrArg Prod.fst h)))
          have hq1 : ((str pl).toList == (str b).toList) = false := (str_beq _ _).trans (decide_eq_false hpl)
          have hq2 : ((str pl).toList != (str b).toList) = true := by rw [bne, hq1]; rfl
          clear hpl
          rcases hcs with hc | ⟨hc, hc2⟩ | ⟨hc, hc2, hc3⟩
          all_goals
            go_wp2_with (first
              | (go_at_call 18; ((with_reducible refine (HPUT.out _ (HAT.out _)).mono ?_); rintro e w2 ⟨u9, rfl, hm9⟩; obtain ⟨p9, rfl, hs9⟩ := hm9.wd; clear hm9; have hu := (RB.of_row (L := [m.e, #[.cells #[.slice ra sl.length rc, .int .i64 se] 118]]) (k := p9.n) hs9 _ rfl).run_str (P := Try.prog) 28 9 5 Try.underlying28 Try.underlying5 Try.underlying9; have hv9 := (HV.out.more (more_wd w (p9.e :: [m.e, #[.cells #[.slice ra sl.length rc, .int .i64 se] 118]]) p9.n)).run_str (P := Try.prog) 28 9 5 Try.underlying28 Try.underlying5 Try.underlying9; clear hs9)))
            exact bodyPost_ret (v := .tuple #[.slice none 0 0, .int .i64 4]) (by simp [results, Try.results22, go_sem]) rfl (stmsret_no HX.out rfl)
      · have HX : Hid (stpsGet b = ([], 4)) := Lib.hid (HNO.out (by rw [HPP.out]; intro h; exact hpe (congrArg Prod.snd h)))
        have hne : (pe == 0) = false := by rw [beq_eq_false_iff_ne]; exact hpe
        rcases hcs with hc | ⟨hc, hc2⟩ | ⟨hc, hc2, hc3⟩
        all_goals
          go_wp2_with (first
              | (go_at_call 18; ((with_reducible refine (HPUT.out _ (HAT.out _)).mono ?_); rintro e w2 ⟨u9, rfl, hm9⟩; obtain ⟨p9, rfl, hs9⟩ := hm9.wd; clear hm9; have hu := (RB.of_row (L := [m.e, #[.cells #[.slice ra sl.length rc, .int .i64 se] 118]]) (k := p9.n) hs9 _ rfl).run_str (P := Try.prog) 28 9 5 Try.underlying28 Try.underlying5 Try.underlying9; have hv9 := (HV.out.more (more_wd w (p9.e :: [m.e, #[.cells #[.slice ra sl.length rc, .int .i64 se] 118]]) p9.n)).run_str (P := Try.prog) 28 9 5 Try.underlying28 Try.underlying5 Try.underlying9; clear hs9)))
          all_goals exact bodyPost_ret (v := .tuple #[.slice none 0 0, .int .i64 4]) (by simp [results, Try.results22, go_sem]) rfl (stmsret_no HX.out rfl)
end Go.Proofs.Ytejokhgabcldhaa
/- law 27: own; one step as a row. -/
namespace Go.Proofs.Ytejokhgabcldhaa
open Go.ChangeShapes Go.WideShapes Go.ChangeAt Go.RowKit
set_option linter.unusedVariables false
set_option linter.unusedSimpArgs false

/-- Steps, handed back. -/
structure OwnRet (w w' : World) (x : Ending) (l : List Stm) : Prop where
  out : ∃ (a : Option Addr) (cap : Nat), x = .returned (.slice a l.length cap) ∧ StmsAt w' a l ∧ More w w'
set_option maxRecDepth 100000 in
set_option maxHeartbeats 1600000 in
theorem own_any (ad : Option Addr) (cap : Nat) (l : List Stm) (w : World) (h : StmsAt w ad l) (hm : l.length ≤ 1000000) :
    Calls Try.prog 17 #[.slice ad l.length cap] w fun x w' => OwnRet w w' x l := by
  obtain ⟨i0, hi, hz0, hz1, hz2⟩ := info_parts info_stp
  have HA := Lib.hid h
  clear h
  refine calls_wd ?_
  go_enter Try.func17, Try.ntmps17
  go_wp2
  go_loopw [3, 4] (fun sv i wr => ∃ (k : Nat) (m : Ext) (a : Option Addr) (c : Nat), k ≤ l.length ∧ sv = .slice a k c ∧ i = .int .i64 k ∧ Hid (rowIn w.heap.size [] m.e 36 22 (.slice a k c) k ((l.take k).flatMap stmCells)) ∧ wr = wd w [m.e] m.n) (fun _ i _ => l.length - (intOf i).toNat)
  case atStart => exact ⟨0, ⟨#[], _⟩, none, 0, Nat.zero_le _, rfl, rfl, Lib.hid (rowIn_nil _ _ _ _ _), by rw [wd_empty]⟩
  case round =>
    obtain ⟨k, m, a, c, hk, rfl, rfl, HROW, rfl⟩ := hrel
    by_cases hlt : k < l.length
    · obtain ⟨x, hx⟩ : ∃ x, l[k]? = some x := ⟨_, List.getElem?_eq_getElem hlt⟩
      obtain ⟨b, off, rfl, hb, hld⟩ := load_row (P := Try.prog) HA.out.row k x hx
      have HT : Hid ((l.take (k + 1)).flatMap stmCells = (l.take k).flatMap stmCells ++ (stp x.s x.a x.cap x.f x.fc).toList) := Lib.hid (by rw [take_get l k x hx, flat_snoc, stm_toList])
      clear hx
      go_wp2_with (first
        | (at_builtin; refine wp_append_rowGD [] rfl _ _ _ rfl 36 i0 _ 22 224 Try.underlying42 hi hz0 hz1 hz2 (stp_size _ _ _ _ _) (by decide) (.slice a k c) k _ rfl HROW.out _ _ 1 1 rfl (stp_size _ _ _ _ _) (stp_one _ _ _ _ _) (by unfold maxLen; omega) (by omega) ?_; intro v8 m8 hr8 hg8; obtain ⟨a8, c8, rfl⟩ := rowIn_slice hr8))
      go_roundw
      case rel => exact ⟨k + 1, m8, a8, c8, by omega, rfl, by go_num, Lib.hid (by rw [HT.out]; exact hr8), rfl⟩
      case measure => simp [intOf]; omega
    · obtain rfl : k = l.length := by omega
      have HR : Hid (rowIn w.heap.size [] m.e 36 22 (.slice a l.length c) l.length (l.flatMap stmCells)) := Lib.hid (by have := HROW.out; rw [List.take_length] at this; exact this)
      go_wp2
      go_ret
      exact ⟨a, c, rfl, ⟨stms_row (L := []) HR.out, fun x hx => (HA.out.each x hx).more (more_wd _ _ _)⟩, more_wd _ _ _⟩
/-- One step, in a block of its own. -/
theorem stms_one {w : World} {b : Nat} {s : Stp} {a : Option Addr} {cap : Nat} {f : Option Addr} {fc : Nat} {t : TypeId} (hb : w.heap[b]? = some (.cells (stp s a cap f fc) t)) (h : StpAt w s a f fc) : StmsAt w (some ⟨b, 0, none⟩) [⟨s, a, cap, f, fc⟩] := by
  refine ⟨⟨fun _ => ⟨b, 0, rfl, (Array.getElem?_eq_some_iff.1 hb).1, fun i hi => ?_⟩⟩, fun x hx => ?_⟩
  · simp only [World.cell?, hb, Nat.zero_add]
    rw [← Array.getElem?_toList, stm_toList]
    simp
  · simp at hx; subst hx; exact h
end Go.Proofs.Ytejokhgabcldhaa
/- What came in: bytes, records, batches, requests, steps. -/
namespace Go.Proofs.Ytejokhgabcldhaa
open Go.ChangeShapes Go.WideShapes Go.ChangeAt Go.RowKit
set_option linter.unusedVariables false
set_option linter.unusedSimpArgs false

theorem cells_of : Try.prog.cellsOf 3 = 1 ∧ Try.prog.cellsOf 9 = 1 ∧ Try.prog.cellsOf 4 = 1 ∧ Try.prog.cellsOf 5 = 1 ∧ Try.prog.cellsOf 28 = 1 ∧ Try.prog.cellsOf 23 = 1 ∧ Try.prog.cellsOf 99 = 6 ∧ Try.prog.cellsOf 25 = 6 ∧ Try.prog.cellsOf 27 = 18 ∧ Try.prog.cellsOf 30 = 22 := by
  refine ⟨?_, ?_, ?_, ?_, ?_, ?_, ?_, ?_, ?_, ?_⟩ <;> kernel_rfl
theorem i64_wf {n : Int} (h : (Lit.int .i64 n).wf = true) : I64 n := by
  simp only [Lit.wf, Bool.and_eq_true, decide_eq_true_eq] at h
  exact h
theorem u8_wf {n : Int} (h : (Lit.int .u8 n).wf = true) : 0 ≤ n ∧ n < 256 := by
  simp only [Lit.wf, Bool.and_eq_true, decide_eq_true_eq] at h
  have h2 : n ≤ 255 := h.2
  exact ⟨h.1, by omega⟩
theorem rows_rd {α : Type} [Inhabited α] {w : World} {t e : TypeId} {cs : List Value} {size : Nat} {cells : α → List Value} {p : α → Prop} (ht : Try.prog.underlying t = some (.slice e)) (hsz : Try.prog.cellsOf e = size) (hpos : 0 < size) (hlen : ∀ x, (cells x).length = size)
    (hel : ∀ cs, Rd Try.prog w e cs → ∃ x : α, cs = cells x ∧ p x) (h : Rd Try.prog w t cs) : ∃ (a : Option Addr) (cap : Nat) (l : List α), cs = [.slice a l.length cap] ∧ RowAt cells size w a l ∧ (∀ x ∈ l, p x) ∧ l.length ≤ cap ∧ cap ≤ maxLen := by
  rcases h.slice ht (by omega) with ⟨a, cap, rfl, hm⟩ | ⟨b, off, len, cap, rfl, h0, hl, hm, hb, hcells⟩
  · exact ⟨a, cap, [], rfl, RowAt.nil _, fun x hx => by simp at hx, Nat.zero_le _, hm⟩
  · rw [hsz] at hcells
    have key : ∀ k, ∃ x : α, k < len → p x ∧ ∀ j, j < size → w.cell? ⟨b, off + (k * size + j), none⟩ = (cells x)[j]? := fun k => by
      by_cases hk : k < len
      · obtain ⟨cs', _, hr, hc⟩ := hcells k hk
        obtain ⟨x, rfl, hp⟩ := hel cs' hr
        exact ⟨x, fun _ => ⟨hp, hc⟩⟩
      · exact ⟨default, fun h => absurd h hk⟩
    obtain ⟨f, hf⟩ := Classical.axiomOfChoice key
    have hr := rdrow_of_fn cells size hlen hpos (cap := cap) f hb (fun k hk => (hf k hk).2)
    have hll : ((List.range len).map f).length = len := by simp
    refine ⟨some ⟨b, off, none⟩, cap, (List.range len).map f, by rw [hll], RowAt.of_rd (cap := cap) ?_, ?_, by rw [hll]; exact hl, hm⟩
    · rw [hll] at hr ⊢; exact hr
    · intro x hx
      obtain ⟨k, hk, rfl⟩ := List.mem_map.1 hx
      exact (hf k (by simpa using hk)).1
theorem flat_one (l : List UInt8) : l.flatMap (fun x => [Value.int .u8 x.toNat]) = l.map (fun b => Value.int .u8 b.toNat) := by
  induction l with
  | nil => rfl
  | cons x l ih => rw [List.flatMap_cons, List.map_cons, ih]; rfl
theorem seg {α : Type} (cs : List α) (k m : Nat) : cs.drop k = (cs.drop k).take m ++ cs.drop (k + m) := by
  rw [← List.drop_drop]; exact (List.take_append_drop m _).symm
theorem byte_rd {w : World} {cs : List Value} (h : Rd Try.prog w 5 cs) : ∃ x : UInt8, cs = [.int .u8 x.toNat] := by
  obtain ⟨n, rfl, hw⟩ := h.int Try.underlying5
  obtain ⟨h1, h2⟩ := u8_wf hw
  refine ⟨UInt8.ofNat n.toNat, ?_⟩
  rw [u8_toNat _ (by omega), Int.toNat_of_nonneg h1]
theorem bytes_rd {w : World} {cs : List Value} (h : Rd Try.prog w 28 cs) : ∃ (a : Option Addr) (cap : Nat) (l : List UInt8), cs = [.slice a l.length cap] ∧ RB w (.slice a l.length cap) l := by
  obtain ⟨a, cap, l, rfl, hr, _, h1, h2⟩ := rows_rd (cells := fun x : UInt8 => [Value.int .u8 x.toNat]) (size := 1) (p := fun _ => True) Try.underlying28 cells_of.2.2.2.1 (by decide) (fun _ => rfl) (fun cs hcs => by obtain ⟨x, hx⟩ := byte_rd hcs; exact ⟨x, hx, trivial⟩) h
  refine ⟨a, cap, l, rfl, a, cap, rfl, h1, h2, fun hne => ?_⟩
  obtain ⟨b, off, ha, hb, hc⟩ := hr.out hne
  refine ⟨b, off, ha, hb, fun i hi => ?_⟩
  rw [hc i (by omega)]
  rw [flat_one]; rfl
theorem str_ex (s : ByteArray) : ∃ l : List UInt8, s = str l ∧ l.length = s.size := ⟨s.data.toList, (str_of s).symm, by simp⟩
theorem rec_rd {w : World} {cs : List Value} (h : Rd Try.prog w 99 cs) : ∃ x : Rec, cs = recCells x ∧ x.wf ∧ x.key.length ≤ maxLen ∧ x.value.length ≤ maxLen := by
  obtain ⟨ci, cst, cb, _, _, _, cr, _⟩ := cells_of
  obtain ⟨hl, hf⟩ := h.struct Try.underlying99
  rw [cr] at hl
  obtain ⟨n0, e0, w0⟩ := (hf 0 _ rfl).int Try.underlying3
  obtain ⟨n1, e1, w1⟩ := (hf 1 _ rfl).int Try.underlying3
  obtain ⟨b2, e2⟩ := (hf 2 _ rfl).bool Try.underlying4
  obtain ⟨s3, e3, m3⟩ := (hf 3 _ rfl).string Try.underlying9
  obtain ⟨b4, e4⟩ := (hf 4 _ rfl).bool Try.underlying4
  obtain ⟨s5, e5, m5⟩ := (hf 5 _ rfl).string Try.underlying9
  obtain ⟨l3, rfl, g3'⟩ := str_ex s3
  obtain ⟨l5, rfl, g5'⟩ := str_ex s5
  have e0 : (cs.drop 0).take (Try.prog.cellsOf 3) = _ := e0
  rw [ci] at e0
  have e1 : (cs.drop 1).take (Try.prog.cellsOf 3) = _ := e1
  rw [ci] at e1
  have e2 : (cs.drop 2).take (Try.prog.cellsOf 4) = _ := e2
  rw [cb] at e2
  have e3 : (cs.drop 3).take (Try.prog.cellsOf 9) = _ := e3
  rw [cst] at e3
  have e4 : (cs.drop 4).take (Try.prog.cellsOf 4) = _ := e4
  rw [cb] at e4
  have e5 : (cs.drop 5).take (Try.prog.cellsOf 9) = _ := e5
  rw [cst] at e5
  have g0 := seg cs 0 1
  rw [e0] at g0
  have g1 := seg cs 1 1
  rw [e1] at g1
  have g2 := seg cs 2 1
  rw [e2] at g2
  have g3 := seg cs 3 1
  rw [e3] at g3
  have g4 := seg cs 4 1
  rw [e4] at g4
  have g5 := seg cs 5 1
  rw [e5] at g5
  have gz : cs.drop 6 = [] := List.drop_eq_nil_of_le (by omega)
  have hcs : cs = _ := (List.drop_zero (l := cs)).symm.trans g0
  simp only [Nat.zero_add, Nat.reduceAdd] at g0 g1 g2 g3 g4 g5 hcs
  rw [g1, g2, g3, g4, g5, gz] at hcs
  exact ⟨⟨n0, n1, b2, l3, b4, l5⟩, hcs, ⟨i64_wf w0, i64_wf w1⟩, by rw [g3']; exact m3, by rw [g5']; exact m5⟩
/-- Records that came in. -/
theorem recs_rd {w : World} {cs : List Value} (h : Rd Try.prog w 23 cs) : ∃ (a : Option Addr) (cap : Nat) (l : List Rec), cs = [.slice a l.length cap] ∧ RecsAt w a l ∧ (∀ x ∈ l, x.wf) ∧ l.length ≤ maxLen := by
  obtain ⟨a, cap, l, h1, h2, h3, h4, h5⟩ := rows_rd (cells := recCells) (size := 6) (p := fun x => x.wf) Try.underlying23 cells_of.2.2.2.2.2.2.1 (by decide) recCells_len (fun cs hcs => by obtain ⟨x, hx, hw, _⟩ := rec_rd hcs; exact ⟨x, hx, hw⟩) h
  exact ⟨a, cap, l, h1, h2, h3, Nat.le_trans h4 h5⟩
def batCells (b : Bat) (a : Option Addr) (cap : Nat) : List Value := [.int .i64 b.base, .int .i64 b.count, .int .i64 b.producer, .int .i64 b.epoch, .int .i64 b.seq, .slice a b.recs.length cap]
theorem bat_rd {w : World} {cs : List Value} (h : Rd Try.prog w 25 cs) : ∃ (b : Bat) (a : Option Addr) (cap : Nat), cs = batCells b a cap ∧ RecsAt w a b.recs ∧ b.wf ∧ (∀ x ∈ b.recs, x.wf) ∧ b.recs.length ≤ maxLen := by
  obtain ⟨ci, cst, cb, _, _, crs, cr, cbt, _⟩ := cells_of
  obtain ⟨hl, hf⟩ := h.struct Try.underlying25
  rw [cbt] at hl
  obtain ⟨n0, e0, w0⟩ := (hf 0 _ rfl).int Try.underlying3
  obtain ⟨n1, e1, w1⟩ := (hf 1 _ rfl).int Try.underlying3
  obtain ⟨n2, e2, w2⟩ := (hf 2 _ rfl).int Try.underlying3
  obtain ⟨n3, e3, w3⟩ := (hf 3 _ rfl).int Try.underlying3
  obtain ⟨n4, e4, w4⟩ := (hf 4 _ rfl).int Try.underlying3
  obtain ⟨a, cap, l, e5, hr, hw, hm⟩ := recs_rd (hf 5 _ rfl)
  have e0 : (cs.drop 0).take (Try.prog.cellsOf 3) = _ := e0
  rw [ci] at e0
  have e1 : (cs.drop 1).take (Try.prog.cellsOf 3) = _ := e1
  rw [ci] at e1
  have e2 : (cs.drop 2).take (Try.prog.cellsOf 3) = _ := e2
  rw [ci] at e2
  have e3 : (cs.drop 3).take (Try.prog.cellsOf 3) = _ := e3
  rw [ci] at e3
  have e4 : (cs.drop 4).take (Try.prog.cellsOf 3) = _ := e4
  rw [ci] at e4
  have e5 : (cs.drop 5).take (Try.prog.cellsOf 23) = _ := e5
  rw [crs] at e5
  have g0 := seg cs 0 1
  rw [e0] at g0
  have g1 := seg cs 1 1
  rw [e1] at g1
  have g2 := seg cs 2 1
  rw [e2] at g2
  have g3 := seg cs 3 1
  rw [e3] at g3
  have g4 := seg cs 4 1
  rw [e4] at g4
  have g5 := seg cs 5 1
  rw [e5] at g5
  have gz : cs.drop 6 = [] := List.drop_eq_nil_of_le (by omega)
  have hcs : cs = _ := (List.drop_zero (l := cs)).symm.trans g0
  simp only [Nat.zero_add, Nat.reduceAdd] at g0 g1 g2 g3 g4 g5 hcs
  rw [g1, g2, g3, g4, g5, gz] at hcs
  exact ⟨⟨n0, n1, n2, n3, n4, l⟩, a, cap, hcs, hr, ⟨i64_wf w0, i64_wf w1, i64_wf w2, i64_wf w3, i64_wf w4⟩, hw, hm⟩
theorem req_rd {w : World} {cs : List Value} (h : Rd Try.prog w 27 cs) : ∃ (q : Req) (a : Option Addr) (cap : Nat), cs = reqCells q a cap ∧ RecsAt w a q.batch.recs ∧ q.kind < 256 ∧ q.wf ∧ q.topic.length ≤ maxLen ∧ q.group.length ≤ maxLen ∧ q.member.length ≤ maxLen ∧ q.batch.recs.length ≤ maxLen := by
  obtain ⟨ci, cst, cb, cu, _, crs, cr, cbt, cq, _⟩ := cells_of
  obtain ⟨hl, hf⟩ := h.struct Try.underlying27
  rw [cq] at hl
  obtain ⟨k0, e0, w0⟩ := (hf 0 _ rfl).int Try.underlying5
  obtain ⟨s1, e1, m1⟩ := (hf 1 _ rfl).string Try.underlying9
  obtain ⟨n2, e2, w2⟩ := (hf 2 _ rfl).int Try.underlying3
  obtain ⟨n3, e3, w3⟩ := (hf 3 _ rfl).int Try.underlying3
  obtain ⟨b4, e4⟩ := (hf 4 _ rfl).bool Try.underlying4
  obtain ⟨b5, e5⟩ := (hf 5 _ rfl).bool Try.underlying4
  obtain ⟨n6, e6, w6⟩ := (hf 6 _ rfl).int Try.underlying3
  obtain ⟨n7, e7, w7⟩ := (hf 7 _ rfl).int Try.underlying3
  obtain ⟨n8, e8, w8⟩ := (hf 8 _ rfl).int Try.underlying3
  obtain ⟨s9, e9, m9⟩ := (hf 9 _ rfl).string Try.underlying9
  obtain ⟨s10, e10, m10⟩ := (hf 10 _ rfl).string Try.underlying9
  obtain ⟨n11, e11, w11⟩ := (hf 11 _ rfl).int Try.underlying3
  obtain ⟨b, a, cap, e12, hr, hbw, hw, hm⟩ := bat_rd (hf 12 _ rfl)
  obtain ⟨l1, rfl, g1'⟩ := str_ex s1
  obtain ⟨l9, rfl, g9'⟩ := str_ex s9
  obtain ⟨l10, rfl, g10'⟩ := str_ex s10
  obtain ⟨u1, u2⟩ := u8_wf w0
  have e0 : (cs.drop 0).take (Try.prog.cellsOf 5) = _ := e0
  rw [cu] at e0
  have e1 : (cs.drop 1).take (Try.prog.cellsOf 9) = _ := e1
  rw [cst] at e1
  have e2 : (cs.drop 2).take (Try.prog.cellsOf 3) = _ := e2
  rw [ci] at e2
  have e3 : (cs.drop 3).take (Try.prog.cellsOf 3) = _ := e3
  rw [ci] at e3
  have e4 : (cs.drop 4).take (Try.prog.cellsOf 4) = _ := e4
  rw [cb] at e4
  have e5 : (cs.drop 5).take (Try.prog.cellsOf 4) = _ := e5
  rw [cb] at e5
  have e6 : (cs.drop 6).take (Try.prog.cellsOf 3) = _ := e6
  rw [ci] at e6
  have e7 : (cs.drop 7).take (Try.prog.cellsOf 3) = _ := e7
  rw [ci] at e7
  have e8 : (cs.drop 8).take (Try.prog.cellsOf 3) = _ := e8
  rw [ci] at e8
  have e9 : (cs.drop 9).take (Try.prog.cellsOf 9) = _ := e9
  rw [cst] at e9
  have e10 : (cs.drop 10).take (Try.prog.cellsOf 9) = _ := e10
  rw [cst] at e10
  have e11 : (cs.drop 11).take (Try.prog.cellsOf 3) = _ := e11
  rw [ci] at e11
  have e12 : (cs.drop 12).take (Try.prog.cellsOf 25) = _ := e12
  rw [cbt] at e12
  have g0 := seg cs 0 1
  rw [e0] at g0
  have g1 := seg cs 1 1
  rw [e1] at g1
  have g2 := seg cs 2 1
  rw [e2] at g2
  have g3 := seg cs 3 1
  rw [e3] at g3
  have g4 := seg cs 4 1
  rw [e4] at g4
  have g5 := seg cs 5 1
  rw [e5] at g5
  have g6 := seg cs 6 1
  rw [e6] at g6
  have g7 := seg cs 7 1
  rw [e7] at g7
  have g8 := seg cs 8 1
  rw [e8] at g8
  have g9 := seg cs 9 1
  rw [e9] at g9
  have g10 := seg cs 10 1
  rw [e10] at g10
  have g11 := seg cs 11 1
  rw [e11] at g11
  have g12 := seg cs 12 6
  rw [e12] at g12
  have gz : cs.drop 18 = [] := List.drop_eq_nil_of_le (by omega)
  have hcs : cs = _ := (List.drop_zero (l := cs)).symm.trans g0
  simp only [Nat.zero_add, Nat.reduceAdd] at g0 g1 g2 g3 g4 g5 g6 g7 g8 g9 g10 g11 g12 hcs
  rw [g1, g2, g3, g4, g5, g6, g7, g8, g9, g10, g11, g12, gz] at hcs
  refine ⟨⟨k0.toNat, l1, n2, n3, b4, b5, n6, n7, n8, l9, l10, n11, b⟩, a, cap, ?_, hr, by dsimp only; omega, ⟨i64_wf w2, i64_wf w3, i64_wf w6, i64_wf w7, i64_wf w8, i64_wf w11⟩, by rw [g1']; exact m1, by rw [g9']; exact m9, by rw [g10']; exact m10, hm⟩
  rw [hcs]
  simp [reqCells, batCells, Int.toNat_of_nonneg u1]
theorem stp_rd {w : World} {cs : List Value} (h : Rd Try.prog w 30 cs) : ∃ x : Stm, cs = stmCells x ∧ StpAt w x.s x.a x.f x.fc ∧ StpFit x.s := by
  obtain ⟨ci, cst, cb, cu, cby, crs, cr, cbt, cq, cs0⟩ := cells_of
  obtain ⟨hl, hf⟩ := h.struct Try.underlying30
  rw [cs0] at hl
  obtain ⟨k0, e0, w0⟩ := (hf 0 _ rfl).int Try.underlying5
  obtain ⟨q, a, cap, e1, hr, hk, hw, t1, t2, t3, hm⟩ := req_rd (hf 1 _ rfl)
  obtain ⟨n, e2, w2⟩ := (hf 2 _ rfl).int Try.underlying3
  obtain ⟨d, e3⟩ := (hf 3 _ rfl).bool Try.underlying4
  obtain ⟨f, fc, l, e4, hrb⟩ := bytes_rd (hf 4 _ rfl)
  obtain ⟨u1, u2⟩ := u8_wf w0
  refine ⟨⟨⟨k0.toNat, q, n, d, l⟩, a, cap, f, fc⟩, ?_, ⟨hr, hrb⟩, ⟨by dsimp only; omega, hk, hw, t1, t2, t3, hm, i64_wf w2⟩⟩
  have e0 : (cs.drop 0).take (Try.prog.cellsOf 5) = _ := e0
  rw [cu] at e0
  have e1 : (cs.drop 1).take (Try.prog.cellsOf 27) = _ := e1
  rw [cq] at e1
  have e2 : (cs.drop 19).take (Try.prog.cellsOf 3) = _ := e2
  rw [ci] at e2
  have e3 : (cs.drop 20).take (Try.prog.cellsOf 4) = _ := e3
  rw [cb] at e3
  have e4 : (cs.drop 21).take (Try.prog.cellsOf 28) = _ := e4
  rw [cby] at e4
  have g0 := seg cs 0 1
  rw [e0] at g0
  have g1 := seg cs 1 18
  rw [e1] at g1
  have g2 := seg cs 19 1
  rw [e2] at g2
  have g3 := seg cs 20 1
  rw [e3] at g3
  have g4 := seg cs 21 1
  rw [e4] at g4
  have gz : cs.drop 22 = [] := List.drop_eq_nil_of_le (by omega)
  have hcs : cs = _ := (List.drop_zero (l := cs)).symm.trans g0
  simp only [Nat.zero_add, Nat.reduceAdd] at g0 g1 g2 g3 g4 hcs
  rw [g1, g2, g3, g4, gz] at hcs
  rw [hcs]
  simp [stmCells, stpCells, Int.toNat_of_nonneg u1]
theorem stms_rd {w : World} {cs : List Value} (h : Rd Try.prog w 22 cs) : ∃ (a : Option Addr) (cap : Nat) (l : List Stm), cs = [.slice a l.length cap] ∧ StmsAt w a l ∧ (∀ x ∈ l, StpFit x.s) ∧ l.length ≤ maxLen := by
  obtain ⟨a, cap, l, h1, h2, h3, h4, h5⟩ := rows_rd (cells := stmCells) (size := 22) (p := fun x => StpAt w x.s x.a x.f x.fc ∧ StpFit x.s) Try.underlying22 cells_of.2.2.2.2.2.2.2.2.2 (by decide) stmCells_len (fun cs hcs => stp_rd hcs) h
  exact ⟨a, cap, l, h1, ⟨h2, fun x hx => (h3 x hx).1⟩, fun x hx => (h3 x hx).2, Nat.le_trans h4 h5⟩
end Go.Proofs.Ytejokhgabcldhaa
