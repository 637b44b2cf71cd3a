/- The statement DumpTexts, proved: any batches have the text, and each one the lines, that the document says, or it is told why not. No condition but the card's: the listed tables are laid as the program's text lays them. -/
import Derived.Test.YtejokhgabcldhaaDoorOD
import Derived.Test.YtejokhgabcldhaaDoorOE
import Derived.Test.YtejokhgabcldhaaDoorTie
import Derived.Test.YtejokhgabcldhaaDoorCards
import Derived.LaidMore
import Derived.Lay
import Derived.SevenTiedAt
import Derived.Stop.Joined
namespace Go.Proofs.YtejokhgabcldhaaDoor
open Go.ChangeShapes Go.WideShapes Go.ChangeAt Go.RowKit
set_option linter.unusedVariables false
set_option linter.unusedSimpArgs false

theorem str_at_more {w W : World} {al : Option Addr} {ML : List (List UInt8)} (h : TRow strCell 9 w al ML) (i : Nat) (s : List UInt8) (hs : ML[i]? = some s) : ∃ (b : Nat), al = some ⟨b, 0, none⟩ ∧ ∀ W, More w W → W.cell? ⟨b, i, none⟩ = some (.string (str s)) := by
  obtain ⟨b, C, fr, ha, hb, hc⟩ := h.out (by intro h; subst h; simp at hs)
  refine ⟨b, ha, fun W hm => ?_⟩
  obtain ⟨x, n, rfl⟩ := hm
  have hlt := (Array.getElem?_eq_some_iff.1 hb).1
  simp only [World.cell?, plus_block _ _ _ _ hlt, hb]
  have hi : i < (ML.flatMap strCell).length := by rw [flat_len strCell 1 strCell_len, Nat.mul_one]; exact (List.getElem?_eq_some_iff.1 hs).1
  have h2 := hc i hi
  have h3 := flat_at strCell 1 strCell_len ML i s 0 hs (by decide)
  rw [Nat.mul_one, Nat.add_zero] at h3
  rw [h3] at h2
  simpa [strCell] using h2
/-- What both tell of a batch that may be: its lines, one by one, and all. -/
structure LinesF (b0 b1 b2 b3 b4 : Int) (rs : List Rec) (a : Option Addr) (c : Nat) (N : Nat) (ML : List (List UInt8)) : Prop where
  lines : N = 1 + rs.length
  short : rs.length ≤ 32
  get : ∀ i : Nat, i < N → ∃ s, ML[i]? = some s
  rec_ : ∀ i : Nat, i < rs.length → ∃ RL, ∀ W, RecsAt W a rs → (Calls Tryd.prog 15 #[.agg #[.int .i64 b0, .int .i64 b1, .int .i64 b2, .int .i64 b3, .int .i64 b4, .slice a rs.length c], .int .i64 i] W fun x w' => x = .returned (.string (str RL)) ∧ More W w') ∧ (Calls Tryd.prog 16 #[.agg #[.int .i64 b0, .int .i64 b1, .int .i64 b2, .int .i64 b3, .int .i64 b4, .slice a rs.length c], .int .i64 i] W fun x w' => x = .returned (.string (str RL)) ∧ More W w')
  out1 : ∀ i : Int, (i < 0 ∨ (rs.length : Int) ≤ i) → ∀ W, Calls Tryd.prog 15 #[.agg #[.int .i64 b0, .int .i64 b1, .int .i64 b2, .int .i64 b3, .int .i64 b4, .slice a rs.length c], .int .i64 i] W fun x w' => x = .returned (.string (str [])) ∧ More W w'
  out2 : ∀ i : Int, (i < 0 ∨ (rs.length : Int) ≤ i) → ∀ W, Calls Tryd.prog 16 #[.agg #[.int .i64 b0, .int .i64 b1, .int .i64 b2, .int .i64 b3, .int .i64 b4, .slice a rs.length c], .int .i64 i] W fun x w' => x = .returned (.string (str [])) ∧ More W w'
  bat1 : ∀ W, RecsAt W a rs → Calls Tryd.prog 13 #[.agg #[.int .i64 b0, .int .i64 b1, .int .i64 b2, .int .i64 b3, .int .i64 b4, .slice a rs.length c]] W fun x w' => ∃ (al : Option Addr) (cl : Nat), x = .returned (.tuple #[.slice al N cl, .int .i64 0]) ∧ TRow strCell 9 w' al ML ∧ More W w'
  bat2 : ∀ W, RecsAt W a rs → Calls Tryd.prog 14 #[.agg #[.int .i64 b0, .int .i64 b1, .int .i64 b2, .int .i64 b3, .int .i64 b4, .slice a rs.length c]] W fun x w' => ∃ (al : Option Addr) (cl : Nat), x = .returned (.tuple #[.slice al N cl, .int .i64 0]) ∧ TRow strCell 9 w' al ML ∧ More W w'
theorem linesF (b0 b1 b2 b3 b4 : Int) (rs : List Rec) (a : Option Addr) (c : Nat) (hl : rs.length ≤ maxLen) (hb : batCheck ⟨b0, b1, b2, b3, b4, rs⟩ = 0) : ∃ N ML, LinesF b0 b1 b2 b3 b4 rs a c N ML := by
  refine ⟨(batLines ⟨b0, b1, b2, b3, b4, rs⟩).length, batLines ⟨b0, b1, b2, b3, b4, rs⟩, batLines_len _, (batNum_ok (batCheck_ok hb).1).2.2.2.2.2.2.2.2.2.2, fun i h => ⟨_, List.getElem?_eq_getElem h⟩, fun i h => ?_, fun i h W => line_out ⟨b0, b1, b2, b3, b4, rs⟩ a c i W h hl, fun i h W => rline_out ⟨b0, b1, b2, b3, b4, rs⟩ a c i W h hl, fun W g => ?_, fun W g => ?_⟩
  · have hf : RecFit rs[i] := recFit_of (chk_all _ _ _ (batCheck_ok hb).2.1 _ (List.getElem_mem h))
    exact ⟨recLine rs[i], fun W g => ⟨line_in ⟨b0, b1, b2, b3, b4, rs⟩ a c i _ W g (List.getElem?_eq_getElem h) hl hf, rline_in ⟨b0, b1, b2, b3, b4, rs⟩ a c i _ W g (List.getElem?_eq_getElem h) hl hf⟩⟩
  · refine (dbatch_any ⟨b0, b1, b2, b3, b4, rs⟩ a c W g hl).mono (fun x w' h => ?_)
    obtain ⟨al, cl, h1, h2, _, h3⟩ := h.out
    rw [batLs_ok hb] at h1 h2
    exact ⟨al, cl, h1, h2, h3⟩
  · refine (rbatch_any ⟨b0, b1, b2, b3, b4, rs⟩ a c W g hl).mono (fun x w' h => ?_)
    obtain ⟨al, cl, h1, h2, _, h3⟩ := h.out
    rw [batLs_ok hb] at h1 h2
    exact ⟨al, cl, h1, h2, h3⟩
/-- What both tell of a batch that may not be. -/
structure NoLinesF (b0 b1 b2 b3 b4 : Int) (rs : List Rec) (a : Option Addr) (c : Nat) (E : Int) (N : Nat) : Prop where
  bat1 : ∀ W, RecsAt W a rs → Calls Tryd.prog 13 #[.agg #[.int .i64 b0, .int .i64 b1, .int .i64 b2, .int .i64 b3, .int .i64 b4, .slice a rs.length c]] W fun x w' => ∃ (al : Option Addr) (cl : Nat), x = .returned (.tuple #[.slice al N cl, .int .i64 E]) ∧ More W w'
  bat2 : ∀ W, RecsAt W a rs → Calls Tryd.prog 14 #[.agg #[.int .i64 b0, .int .i64 b1, .int .i64 b2, .int .i64 b3, .int .i64 b4, .slice a rs.length c]] W fun x w' => ∃ (al : Option Addr) (cl : Nat), x = .returned (.tuple #[.slice al N cl, .int .i64 E]) ∧ More W w'
theorem noLinesF (b0 b1 b2 b3 b4 : Int) (rs : List Rec) (a : Option Addr) (c : Nat) (hl : rs.length ≤ maxLen) (hb : batCheck ⟨b0, b1, b2, b3, b4, rs⟩ ≠ 0) : ∃ E N, ((E == 0) = false) ∧ N = 0 ∧ NoLinesF b0 b1 b2 b3 b4 rs a c E N := by
  refine ⟨batCheck ⟨b0, b1, b2, b3, b4, rs⟩, 0, beq_eq_false_iff_ne.2 hb, rfl, fun W g => ?_, fun W g => ?_⟩
  · refine (dbatch_any ⟨b0, b1, b2, b3, b4, rs⟩ a c W g hl).mono (fun x w' h => ?_)
    obtain ⟨al, cl, h1, h2, _, h3⟩ := h.out
    rw [batLs_no hb] at h1 h2
    exact ⟨al, cl, h1, h3⟩
  · refine (rbatch_any ⟨b0, b1, b2, b3, b4, rs⟩ a c W g hl).mono (fun x w' h => ?_)
    obtain ⟨al, cl, h1, h2, _, h3⟩ := h.out
    rw [batLs_no hb] at h1 h2
    exact ⟨al, cl, h1, h3⟩
structure LightF (ad : Option Addr) (cap : Nat) (l : List Btm) : Prop where
  out : ∀ W, BatsAt W ad l → Calls Tryd.prog 12 #[.slice ad l.length cap, .int .i64 12] W fun x w' => LightRet W w' x ((l.length : Int) ≤ 12 ∧ ∀ y ∈ l, y.b.recs.length ≤ 40)
theorem lightF (ad : Option Addr) (cap : Nat) (l : List Btm) (hf : ∀ x ∈ l, x.b.recs.length ≤ maxLen) (hm : l.length ≤ maxLen) : LightF ad cap l := ⟨fun W g => light_bats40 ad cap l 12 W g hf hm (by decide)⟩
set_option maxRecDepth 100000 in
set_option maxHeartbeats 12800000 in
theorem texts_walk (ad : Option Addr) (cap : Nat) (l : List Btm) (w : World) (h : BatsAt w ad l) (hf : ∀ x ∈ l, x.b.recs.length ≤ maxLen) (hm : l.length ≤ maxLen) :
    Calls Tryd.prog 4 #[.slice ad l.length cap] w fun x w' => x = .returned (.bool true) ∧ More w w' := by
  have HA := Lib.hid h
  have HF := Lib.hid hf
  obtain ⟨T1, T2, _, HTX⟩ := textsF ad cap l hf hm
  have HLT := lightF ad cap l hf hm
  unfold maxLen at hm
  clear h hf
  refine calls_wd ?_
  go_enter Tryd.func4, Tryd.ntmps4
  go_wp2_with (first
    | (go_at_call 12; ((with_reducible refine (HLT.out _ (HA.out.more (more_wd _ _ _))).mono ?_); rintro e w1 hlr; obtain ⟨bl, rfl, ⟨x9, n9, rfl⟩, hb⟩ := hlr.out; clear hlr; have HB := Lib.hid hb; clear hb; cases bl))
    | (go_at_call 7; ((with_reducible refine (awake30 _).mono ?_); rintro e w1 ⟨rfl, x1, n1, rfl⟩)))
  · go_ret
    exact ⟨rfl, more_wd _ _ _⟩
  have hl12 : (l.length : Int) ≤ 12 := (HB.out (by trivial)).1
  have H40 := Lib.hid (HB.out (by trivial)).2
  clear HB HLT
  go_loopw [3] (fun i wr => ∃ (k : Nat) (m : Ext), k ≤ l.length ∧ i = .int .i64 k ∧ wr = wd w [m.e] m.n) (fun i _ => l.length - (intOf i).toNat)
  case atStart => exact ⟨0, ⟨x9, n9⟩, Nat.zero_le _, rfl, rfl⟩
  case round =>
    obtain ⟨k, m, hk, rfl, rfl⟩ := hrel
    by_cases hlt : k < l.length
    · obtain ⟨x, hx⟩ : ∃ x, l[k]? = some x := ⟨_, List.getElem?_eq_getElem hlt⟩
      obtain ⟨bb, off, rfl, hb, c0, c1, c2, c3, c4, c5⟩ := bats_at HA.out k x hx
      have hxm := List.mem_of_getElem? hx
      have HAT := Lib.hid (HA.out.each x hxm)
      have hrl := HF.out x hxm
      have hr40 := H40.out x hxm
      clear hx hxm HTX HF H40
      obtain ⟨⟨b0, b1, b2, b3, b4, rs⟩, a, c⟩ := x
      dsimp only at HAT c0 c1 c2 c3 c4 c5 hrl hr40
      by_cases hbc : batCheck ⟨b0, b1, b2, b3, b4, rs⟩ = 0
      · obtain ⟨N, ML, HL⟩ := linesF b0 b1 b2 b3 b4 rs a c hrl hbc
        have hn32 := HL.short
        clear hbc hrl
        go_wp2_with (first
          | (go_at_call 13; ((with_reducible refine (HL.bat1 _ (HAT.out.more (more_wd _ _ _))).mono ?_); rintro e w1 ⟨al, cl, rfl, hst, x1, n1, rfl⟩; have HT1 := Lib.hid hst; clear hst))
          | (go_at_call 14; ((with_reducible refine (HL.bat2 _ (HAT.out.more (more_wd _ _ _))).mono ?_); rintro e w1 ⟨al2, cl2, rfl, hst, x2, n2, rfl⟩; have HT2 := Lib.hid hst; clear hst)))
        go_loopw [8] (fun kv wr => ∃ (K : Int) (m' : Ext), -1 ≤ K ∧ K ≤ rs.length + 1 ∧ kv = .int .i64 K ∧ wr = wd w [m'.e] m'.n ∧ TRow strCell 9 (wd w [m'.e] m'.n) al ML ∧ TRow strCell 9 (wd w [m'.e] m'.n) al2 ML) (fun kv _ => ((rs.length : Int) + 1 - intOf kv).toNat)
        case atStart => exact ⟨-1, ⟨m.e ++ (x1 ++ x2), n2⟩, by decide, by omega, rfl, by rw [wd_merge3], by have h2 := HT1.out.more (show More (plus (wd w [m.e] m.n) x1 n1) (wd w [x2, x1, m.e] n2) from ⟨x2, n2, rfl⟩); rw [wd_merge3] at h2; exact h2, by have h2 := HT2.out; (first | rw [wd_plus, wd_merge3] at h2 | rw [wd_merge3] at h2); exact h2⟩
        case round =>
          clear HT1 HT2 HA
          obtain ⟨K, m2, hK1, hK2, rfl, rfl, ht1, ht2⟩ := hrel
          have HT1 := Lib.hid ht1
          have HT2 := Lib.hid ht2
          clear ht1 ht2
          by_cases hneg : K < 0
          · obtain rfl : K = -1 := by omega
            go_wp2
            refine wp_region_wd (by kernel_rfl) (by kernel_rfl) ?_
            repeat (go_big_quiet_step ((first | (go_at_call 15; with_reducible exact Calls.wd_of (HL.out1 (-1) (Or.inl (by decide)) _)) | (go_at_call 16; with_reducible exact Calls.wd_of (HL.out2 (-1) (Or.inl (by decide)) _)))))
            refine wpQuiet_nil ?_
            rintro _ ⟨mx, rfl⟩
            go_wp2
            go_roundw
            case rel => exact ⟨0, ⟨m2.e ++ mx.e, mx.n⟩, by decide, by omega, rfl, by rw [wd_merge], HT1.out.more (more_piece _ _ _ _ _ _), HT2.out.more (more_piece _ _ _ _ _ _)⟩
            case measure => simp [intOf]; omega
          · obtain ⟨i, rfl⟩ : ∃ i : Nat, K = i := ⟨K.toNat, by omega⟩
            by_cases hin : i ≤ rs.length
            · have hiN : i < N := by have := HL.lines; omega
              have hiN' : (i : Int) < N := by omega
              obtain ⟨s, hs⟩ := HL.get i hiN
              obtain ⟨sb, rfl, hs1⟩ := str_at_more (W := w) HT1.out i s hs
              obtain ⟨sb2, rfl, hs2⟩ := str_at_more (W := w) HT2.out i s hs
              have hc1 := fun (e : Array Obj) (n : Nat) => hs1 (wd w [e, m2.e] n) (more_cons (more_same _ _ _ _))
              have hc2 := fun (e : Array Obj) (n : Nat) => hs2 (wd w [e, m2.e] n) (more_cons (more_same _ _ _ _))
              clear hs1 hs2 hs
              by_cases hil : i < rs.length
              · obtain ⟨RL, HX⟩ := HL.rec_ i hil
                have HX := Lib.hid HX
                go_wp2
                refine wp_region_wd (by kernel_rfl) (by kernel_rfl) ?_
                repeat (go_big_quiet_step ((first | (go_at_call 15; with_reducible exact Calls.wd_of ((HX.out _ (HAT.out.more (more_wd _ _ _))).1)) | (go_at_call 16; with_reducible exact Calls.wd_of ((HX.out _ (HAT.out.more (more_wd _ _ _))).2)))))
                refine wpQuiet_nil ?_
                rintro _ ⟨mx, rfl⟩
                go_wp2
                go_roundw
                case rel => exact ⟨(i : Int) + 1, ⟨m2.e ++ mx.e, mx.n⟩, by omega, by omega, by go_num, by rw [wd_merge], HT1.out.more (more_piece _ _ _ _ _ _), HT2.out.more (more_piece _ _ _ _ _ _)⟩
                case measure => simp [intOf]; omega
              · have hi2 : (rs.length : Int) ≤ i := by omega
                go_wp2
                refine wp_region_wd (by kernel_rfl) (by kernel_rfl) ?_
                repeat (go_big_quiet_step ((first | (go_at_call 15; with_reducible exact Calls.wd_of (HL.out1 _ (Or.inr hi2) _)) | (go_at_call 16; with_reducible exact Calls.wd_of (HL.out2 _ (Or.inr hi2) _)))))
                refine wpQuiet_nil ?_
                rintro _ ⟨mx, rfl⟩
                go_wp2
                go_roundw
                case rel => exact ⟨(i : Int) + 1, ⟨m2.e ++ mx.e, mx.n⟩, by omega, by omega, by go_num, by rw [wd_merge], HT1.out.more (more_piece _ _ _ _ _ _), HT2.out.more (more_piece _ _ _ _ _ _)⟩
                case measure => simp [intOf]; omega
            · go_wp2
              go_roundw
              case rel => exact ⟨k + 1, m2, by omega, by go_num, rfl⟩
              case measure => simp [intOf]; omega
      · obtain ⟨E, N, hc', hN0, HL⟩ := noLinesF b0 b1 b2 b3 b4 rs a c hrl hbc
        have HN0 := Lib.hid hN0
        clear hN0
        clear hbc
        clear hrl
        go_wp2_with (first
          | (go_at_call 13; ((with_reducible refine (HL.bat1 _ (HAT.out.more (more_wd _ _ _))).mono ?_); rintro e w1 ⟨al, cl, rfl, x1, n1, rfl⟩))
          | (go_at_call 14; ((with_reducible refine (HL.bat2 _ (HAT.out.more (more_wd _ _ _))).mono ?_); rintro e w1 ⟨al2, cl2, rfl, x2, n2, rfl⟩)))
        go_loopw [8] (fun kv wr => ∃ (K : Int) (m' : Ext), -1 ≤ K ∧ K ≤ rs.length + 1 ∧ kv = .int .i64 K ∧ wr = wd w [m'.e] m'.n) (fun kv _ => ((rs.length : Int) + 1 - intOf kv).toNat)
        case atStart => exact ⟨-1, ⟨m.e ++ (x1 ++ x2), n2⟩, by decide, by omega, rfl, by rw [wd_merge3]⟩
        case round =>
          clear HA HAT HL
          obtain ⟨K, m2, hK1, hK2, rfl, rfl⟩ := hrel
          by_cases hneg : K < 0
          · obtain rfl : K = -1 := by omega
            go_wp2
            refine wp_region_wd (by kernel_rfl) (by kernel_rfl) ?_
            repeat (go_big_quiet_step ((fail)))
            refine wpQuiet_nil ?_
            rintro _ ⟨mx, rfl⟩
            go_wp2
            go_roundw
            case rel => exact ⟨0, ⟨m2.e ++ mx.e, mx.n⟩, by decide, by omega, rfl, by rw [wd_merge]⟩
            case measure => simp [intOf]; omega
          · obtain ⟨i, rfl⟩ : ∃ i : Nat, K = i := ⟨K.toNat, by omega⟩
            by_cases hin : i ≤ rs.length
            · go_wp2
              have hi0 : ((i : Int) < (N : Int)) = False := by have := HN0.out; simp; omega
              refine wp_region_wd (by kernel_rfl) (by kernel_rfl) ?_
              repeat (go_big_quiet_step ((fail)))
              refine wpQuiet_nil ?_
              rintro _ ⟨mx, rfl⟩
              go_wp2
              go_roundw
              case rel => exact ⟨(i : Int) + 1, ⟨m2.e ++ mx.e, mx.n⟩, by omega, by omega, by go_num, by rw [wd_merge]⟩
              case measure => simp [intOf]; omega
            · go_wp2
              go_roundw
              case rel => exact ⟨k + 1, m2, by omega, by go_num, rfl⟩
              case measure => simp [intOf]; omega
    · go_wp2_with (first
        | (go_at_call 17; ((with_reducible refine (HTX.t1 _ (HA.out.more (more_wd _ _ _))).mono ?_); rintro e w1 ⟨rfl, x3, n3, rfl⟩))
        | (go_at_call 18; ((with_reducible refine (HTX.t2 _ (HA.out.more (more_wd _ _ _))).mono ?_); rintro e w1 ⟨rfl, x4, n4, rfl⟩))
        | (go_at_call 7; ((with_reducible refine (awake30 _).mono ?_); rintro e w1 ⟨rfl, x1, n1, rfl⟩)))
      go_ret
      exact ⟨rfl, more_wd _ _ _⟩
set_option maxRecDepth 100000 in
theorem texts_rd {base : Nat} {w : World} (v0 : Value) (k0 : Value.okWide Tryd.prog w .any base 27 v0) (r0 : Rd Tryd.prog w 27 v0.cells.toList) :
    Calls Tryd.prog 4 #[v0] w fun e w' => e = .returned (.bool true) ∧ More w w' := by
  obtain ⟨ad, cap, l, hv, hs, hf, hm⟩ := bats_rd r0
  obtain rfl := slice_of_cells hv Tryd.underlying27 k0
  exact texts_walk ad cap l w hs hf hm

set_option maxRecDepth 100000 in
theorem liftedDumpTexts (os : Os) (started : os.Started) (H : Type) (enc : TypeId × Value → H) :
    ReturnsInHanded {} Tryd.checked os 4 .any (fun w args => (Rows.dumpTextsSpec.pre enc Tryd.prog Tryd.f4 Rows.dumpTextsRow.domain false w args ∧ laidMetH Tryd.prog Rows.dumpTextsRow.laid w) ∧ sizedMet enc Tryd.prog Tryd.f4 (OpenSpec.ofChange Rows.dumpTextsSpec) false w args) (Rows.dumpTextsSpec.post enc Tryd.prog Tryd.f4 false true false false) := by
  refine returnsInHanded_of_change_and (C := Tryd.checked) (X := fun w _ => laidMetH Tryd.prog Rows.dumpTextsRow.laid w) (fun _ _ _ hh h => h.of_heap hh) own started (by kernel_rfl) Tryd.func4
    (ChangeSpec.witness_shaped (enc := enc) (C := Tryd.checked) (os := os) (X := fun w _ => laidMetH Tryd.prog Rows.dumpTextsRow.laid w) false (World.laidAll Tryd.prog os Rows.dumpTextsRow.laid) #[.slice none 0 0] 8 (World.laidAll_os _ _ _)
      (World.shaped_of_ZipB (by kernel_rfl) (by kernel_rfl)) (by kernel_rfl) (by kernel_rfl) (by kernel_rfl)
      (by rw [MakeChecks.laidMetH_plain _ _ _ (by kernel_rfl)]; exact laidMet_laidAll _ (by kernel_rfl) (by kernel_rfl))) ?_
  intro W base args ds gs before hval0 hW hcnd _ _ _
  have hval : ∀ (j : Nat) t v, Tryd.f4.params[j]? = some t → args[j]? = some v → Value.okWide Tryd.prog W .any base t v := hval0
  have hW' := hW
  obtain ⟨p, q, hA0, hV, rfl, hfz, hnd⟩ := hW
  have hA : DataW.TrodAll enc Tryd.prog W 0 (fun _ => true) true Tryd.f4.params.toList args.toList ds p := hA0
  rw [Tryd.params4] at hA hval
  obtain ⟨v0, vs0, d0, ds0, p0, q0, hargs, rfl, rfl, h0, r0⟩ := trodAll_cons hA
  obtain ⟨rfl, rfl, rfl⟩ := trodAll_nil r0
  obtain rfl : args = #[v0] := by cases args; simp_all
  obtain ⟨rfl, rfl⟩ := trodVars_none hV
  have lt0 : ∀ x ∈ p0, x.block < W.heap.size := by obtain ⟨m, hm⟩ := h0; exact DataW.trod_lt m _ _ _ hm
  have rd0 : Rd Tryd.prog W 27 v0.cells.toList := by obtain ⟨m, hm⟩ := h0; exact ⟨H, enc, m, _, hm⟩
  clear hA0 hval0
  refine (texts_rd v0 (hval 0 27 v0 rfl rfl) rd0).mono fun e W' ⟨he, hmore⟩ => ?_
  subst he
  have bel := hmore.below
  exact ⟨_, rfl, _, _, _, [], _, [], hW', trodAll_mk1 (shut_bool Tryd.underlying4 _), (trodAll_cons_mk (Below.trod laidOut (by kernel_rfl) (of_decide_eq_true (by kernel_rfl)) h0 bel lt0) trodAll_mk0), rfl, bel.frame _, fun h => by cases h⟩

theorem overDumpTexts : Rows.dumpTextsRow.holds Tryd.pinned (OpenSpec.ofChange Rows.dumpTextsSpec) :=
  OpenClaim.holds_of_wide 4 Tryd.f4 rfl rfl rfl rfl rfl rfl rfl ⟨rfl, rfl, rfl, rfl, rfl⟩ rfl rfl rfl rfl rfl (by kernel_rfl) Tryd.func4 (by kernel_rfl)
    (of_decide_eq_true (by kernel_rfl)) (by unfold Func.isWrapper; first | (rw [if_pos (by decide +kernel)]; kernel_rfl) | (rw [if_neg (by decide +kernel)]; exact ⟨rfl, rfl⟩))
    (fun os started H enc _ => liftedDumpTexts os started H enc)

/-- THE STATEMENT: THE TIED CARD. -/
theorem provedDumpTexts : Rows.DumpTextsCardSaid :=
  Claim7.holds_tied_plain_at .later [] [.data, .pinned] true _ false overDumpTexts (fun _ h => by cases h) (by kernel_rfl) (fun _ h => by cases h) dumpTexts_row_tie rfl ⟨rfl, rfl⟩ (by kernel_rfl) rfl
    (fun f fn hf hfn => by
      obtain rfl : f = 4 := Option.some.inj ((show Tryd.prog.funcNamed "bilander/bilanderlaw30.DumpTexts" = some 4 by kernel_rfl).symm.trans hf) |>.symm
      obtain rfl : fn = Tryd.f4 := (Option.some.inj (Tryd.func4.symm.trans hfn)).symm
      exact ⟨by kernel_rfl, fun j t ht => by
        rw [Tryd.params4] at ht
        have hm : t ∈ [27] := by simpa using Array.mem_of_getElem? ht
        have hall : ([27].all fun u => !Tryd.prog.wantsStandIn u) = true := by kernel_rfl
        exact (show Tryd.prog.wantsStandIn t = false by simpa using List.all_eq_true.1 hall t hm)⟩)
    (by kernel_rfl)
#print axioms provedDumpTexts
end Go.Proofs.YtejokhgabcldhaaDoor
