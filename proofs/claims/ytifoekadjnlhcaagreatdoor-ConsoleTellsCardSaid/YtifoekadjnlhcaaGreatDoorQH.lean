/- console: tame responses (printed by gen/ctl.py). -/
import Derived.Test.YtifoekadjnlhcaaGreatDoorQG
namespace Go.Proofs.YtifoekadjnlhcaaGreatDoor
open Go.ChangeShapes Go.WideShapes Go.ChangeAt Go.RowKit
set_option linter.unusedVariables false
set_option linter.unusedSimpArgs false
theorem wd_mm3 {w : World} {a b c : Array Obj} {L : List (Array Obj)} {n : Nat} : wd w (c :: b :: a :: L) n = wd w ((a ++ (b ++ c)) :: L) n := (wd_merge _ _ _ _ _).trans (wd_merge _ _ _ _ _)
set_option maxRecDepth 100000 in
set_option maxHeartbeats 1600000 in
theorem in_any (n : Int) (w : World) : Calls Tryz.prog 36 #[.int .i64 n] w fun x w' => LightRet w w' x (In61 n) := by
  by_cases h1 : -2305843009213693952 ≤ n
  · by_cases h2 : n ≤ 2305843009213693952
    · have hI : Hid (In61 n) := Lib.hid ⟨h1, h2⟩
      refine calls_wd ?_
      go_enter Tryz.func36, Tryz.ntmps36
      go_wp2
      go_ret
      exact ⟨_, rfl, more_wd _ _ _, fun _ => hI.out⟩
    · refine calls_wd ?_
      go_enter Tryz.func36, Tryz.ntmps36
      go_wp2
      go_ret
      exact ⟨_, rfl, more_wd _ _ _, fun h => by simp_all⟩
  · refine calls_wd ?_
    go_enter Tryz.func36, Tryz.ntmps36
    go_wp2
    go_ret
    exact ⟨_, rfl, more_wd _ _ _, fun h => by simp_all⟩
def TmR (r : Rec) : Prop := In61 r.delta ∧ In61 r.time
def TmB (b : Bat) : Prop := In61 b.base ∧ ∀ r ∈ b.recs, TmR r
def Tm (off nx ge : Int) (ps : List Int) (l : List Btm) : Prop := (In61 off ∧ In61 nx ∧ In61 ge) ∧ (∀ n ∈ ps, In61 n) ∧ ∀ x ∈ l, TmB x.b
set_option maxRecDepth 100000 in
set_option maxHeartbeats 12800000 in
theorem tame_any (k0 er off nx : Int) (db : Bool) (ge : Int) (ad : Option Addr) (cap : Nat) (l : List Btm) (pa : Option Addr) (pc : Nat) (ps : List Int) (nv : Value) (w : World) (h : BatsAt w ad l) (hf : ∀ x ∈ l, x.b.recs.length ≤ maxLen) (hm : l.length ≤ maxLen) (hp : ZRd w (.slice pa ps.length pc) ps) :
    Calls Tryz.prog 17 #[.agg #[.int .u8 k0, .int .i64 er, .int .i64 off, .int .i64 nx, .bool db, .int .i64 ge, .slice ad l.length cap, .slice pa ps.length pc, nv]] w fun x w' => LightRet w w' x (Tm off nx ge ps l) := by
  have HA := Lib.hid h
  have HF := Lib.hid hf
  obtain ⟨pa2, pc2, hpe, hpc1, hpc2, hpq⟩ := hp.out
  obtain ⟨rfl, rfl⟩ : pa = pa2 ∧ pc = pc2 := by cases hpe; exact ⟨rfl, rfl⟩
  have HP := Lib.hid hpq
  obtain ⟨NP, hNP⟩ : ∃ NP, ps.length = NP := ⟨_, rfl⟩
  obtain ⟨N, hN⟩ : ∃ N, l.length = N := ⟨_, rfl⟩
  rw [hNP] at hpc1 ⊢
  rw [hN] at hm ⊢
  have HNP := Lib.hid hNP
  have HN := Lib.hid hN
  have hnp : NP ≤ maxLen := Nat.le_trans hpc1 hpc2
  unfold maxLen at hm hnp
  clear h hf hp hpe hpc1 hpc2 hpq hNP hN
  refine calls_wd ?_
  go_enter Tryz.func17, Tryz.ntmps17
  go_wp2_with (first | (go_at_call 36; refine (in_any _ _).mono ?_; rintro e w2 hbr; obtain ⟨bl, rfl, ⟨x9, n9, rfl⟩, hbl⟩ := hbr.out; have HI := Lib.hid hbl; clear hbr hbl; cases bl))
  all_goals
    go_loopw [3, 4] (fun s3 s4 wr => ∃ (k : Nat) (b : Bool) (m : Ext), k ≤ NP ∧ s4 = .int .i64 k ∧ s3 = .bool b ∧ wr = wd w [m.e, #[.cells #[.int .u8 k0, .int .i64 er, .int .i64 off, .int .i64 nx, .bool db, .int .i64 ge, .slice ad N cap, .slice pa NP pc, nv] 46]] m.n ∧ Hid (b = true → (In61 off ∧ In61 nx ∧ In61 ge) ∧ ∀ y ∈ ps.take k, In61 y)) (fun _ s4 _ => NP - (intOf s4).toNat)
    case atStart => exact ⟨0, _, ⟨_, _⟩, Nat.zero_le _, rfl, rfl, by first | rfl | exact wd_merge _ _ _ _ _ | exact wd_mm3, Lib.hid (fun h => by first | (cases h; done) | exact ⟨⟨(by first | exact (by assumption : Hid (true = true → In61 off)).out rfl | exact (by assumption : Hid (True → In61 off)).out trivial | exact (by assumption : Hid (In61 off)).out), (by first | exact (by assumption : Hid (true = true → In61 nx)).out rfl | exact (by assumption : Hid (True → In61 nx)).out trivial | exact (by assumption : Hid (In61 nx)).out), (by first | exact (by assumption : Hid (true = true → In61 ge)).out rfl | exact (by assumption : Hid (True → In61 ge)).out trivial | exact (by assumption : Hid (In61 ge)).out)⟩, by simp⟩)⟩
    case round =>
      obtain ⟨k, b, m, hk, rfl, rfl, rfl, HB⟩ := hrel
      by_cases hlt : k < NP
      · obtain ⟨x, hx⟩ : ∃ x, ps[k]? = some x := ⟨_, List.getElem?_eq_getElem (by rw [HNP.out]; exact hlt)⟩
        obtain ⟨bb, boff, rfl, hb, hc⟩ := HP.out (fun h => by rw [h] at hx; cases hx)
        have c0 := hc k x hx
        have HX := Lib.hid hx
        clear hc hx
        cases b
        · go_wp2
          go_roundw
          case rel => exact ⟨k + 1, false, m, by omega, by go_num, rfl, rfl, Lib.hid (fun h => by cases h)⟩
          case measure => simp [intOf]; omega
        · go_wp2_with (first | (go_at_call 36; refine (in_any _ _).mono ?_; rintro e w2 hbr; obtain ⟨bl, rfl, ⟨x9, n9, rfl⟩, hbl⟩ := hbr.out; have HBL := Lib.hid hbl; clear hbr hbl))
          go_roundw
          case rel => exact ⟨k + 1, bl, ⟨_, _⟩, by omega, by go_num, rfl, wd_merge _ _ _ _ _, Lib.hid (fun h => ⟨(HB.out (by trivial)).1, take_oks (HB.out (by trivial)).2 HX.out (HBL.out h)⟩)⟩
          case measure => simp [intOf]; omega
      · have HB1 : Hid (b = true → (In61 off ∧ In61 nx ∧ In61 ge) ∧ ∀ y ∈ ps, In61 y) := Lib.hid (by have h := HB.out; rw [List.take_of_length_le (l := ps) (by rw [HNP.out]; omega)] at h; exact h)
        go_wp2
        go_loopw [3, 5] (fun s3 s5 wr => ∃ (k : Nat) (b2 : Bool) (m : Ext), k ≤ N ∧ s5 = .int .i64 k ∧ s3 = .bool b2 ∧ wr = wd w [m.e, #[.cells #[.int .u8 k0, .int .i64 er, .int .i64 off, .int .i64 nx, .bool db, .int .i64 ge, .slice ad N cap, .slice pa NP pc, nv] 46]] m.n ∧ Hid (b2 = true → ((In61 off ∧ In61 nx ∧ In61 ge) ∧ ∀ y ∈ ps, In61 y) ∧ ∀ y ∈ l.take k, TmB y.b)) (fun _ s5 _ => N - (intOf s5).toNat)
        case atStart => exact ⟨0, b, m, Nat.zero_le _, rfl, rfl, rfl, Lib.hid (fun h => ⟨HB1.out h, by simp⟩)⟩
        case round =>
          obtain ⟨k, b2, m, hk, rfl, rfl, rfl, HB2⟩ := hrel
          by_cases hlt : k < N
          · obtain ⟨x, hx⟩ : ∃ x, l[k]? = some x := ⟨_, List.getElem?_eq_getElem (by rw [HN.out]; exact hlt)⟩
            obtain ⟨bb, boff, rfl, hb, c0, c1, c2, c3, c4, c5⟩ := bats_at HA.out k x hx
            have hmem := List.mem_of_getElem? hx
            have HAT := Lib.hid (HA.out.each x hmem)
            have hfr := HF.out x hmem
            have HSTEP := Lib.hid (fun h1 h => take_oks (p := fun y : Btm => TmB y.b) h1 hx h)
            clear hx hmem
            obtain ⟨⟨b0, b1, b2', b3', b4, rs⟩, a, c⟩ := x
            dsimp only at HAT HSTEP hfr c0 c1 c2 c3 c4 c5
            obtain ⟨M, hMl⟩ : ∃ M, rs.length = M := ⟨_, rfl⟩
            rw [hMl] at c5 hfr
            have HML := Lib.hid hMl
            unfold maxLen at hfr
            clear hMl
            have HIN : Hid (∀ b3 : Bool, (b3 = true → (((In61 off ∧ In61 nx ∧ In61 ge) ∧ ∀ y ∈ ps, In61 y) ∧ ∀ y ∈ l.take k, TmB y.b) ∧ In61 b0) → (b3 = true → ((((In61 off ∧ In61 nx ∧ In61 ge) ∧ ∀ y ∈ ps, In61 y) ∧ ∀ y ∈ l.take k, TmB y.b) ∧ In61 b0) ∧ ∀ y ∈ rs.take 0, TmR y)) := Lib.hid (fun b3 h h3 => ⟨h h3, by simp⟩)
            cases b2
            · go_wp2
              go_loopw [3, 6] (fun s3 s6 wr => ∃ (j : Nat) (b3 : Bool) (m : Ext), j ≤ M ∧ s6 = .int .i64 j ∧ s3 = .bool b3 ∧ wr = wd w [m.e, #[.cells #[.int .u8 k0, .int .i64 er, .int .i64 off, .int .i64 nx, .bool db, .int .i64 ge, .slice (some ⟨bb, boff, none⟩) N cap, .slice pa NP pc, nv] 46]] m.n ∧ Hid (b3 = true → ((((In61 off ∧ In61 nx ∧ In61 ge) ∧ ∀ y ∈ ps, In61 y) ∧ ∀ y ∈ l.take k, TmB y.b) ∧ In61 b0) ∧ ∀ y ∈ rs.take j, TmR y)) (fun _ s6 _ => M - (intOf s6).toNat)
              case atStart => exact ⟨0, _, ⟨_, _⟩, Nat.zero_le _, rfl, rfl, by first | rfl | exact wd_merge _ _ _ _ _, Lib.hid (HIN.out _ (fun h => by cases h))⟩
              case round =>
                obtain ⟨j, b3, m, hj, rfl, rfl, rfl, HB4⟩ := hrel
                by_cases hjl : j < M
                · obtain ⟨r, hr⟩ : ∃ r, rs[j]? = some r := ⟨_, List.getElem?_eq_getElem (by rw [HML.out]; exact hjl)⟩
                  obtain ⟨rb, roff, rfl, hrb, r0, r1, r2, r3, r4, r5⟩ := recs_at HAT.out j r hr
                  have HST2 := Lib.hid (fun h1 h => take_oks (p := fun y : Rec => TmR y) h1 hr h)
                  clear hr
                  obtain ⟨rd, rt, rk, rkey, rdead, rval⟩ := r
                  dsimp only at r0 r1 r2 r3 r4 r5 HST2
                  cases b3
                  · go_wp2
                    go_roundw
                    case rel => exact ⟨j + 1, false, m, by omega, by go_num, rfl, rfl, Lib.hid (fun h => by cases h)⟩
                    case measure => simp [intOf]; omega
                  · go_wp2_with (first | (go_at_call 36; refine (in_any _ _).mono ?_; rintro e w2 hbr; obtain ⟨bl, rfl, ⟨x9, n9, rfl⟩, hbl⟩ := hbr.out; have HBL := Lib.hid hbl; clear hbr hbl; cases bl))
                    · go_roundw
                      case rel => exact ⟨j + 1, false, ⟨_, _⟩, by omega, by go_num, rfl, by first | exact wd_merge _ _ _ _ _ | exact wd_mm3, Lib.hid (fun h => by cases h)⟩
                      case measure => simp [intOf]; omega
                    · go_roundw
                      case rel => exact ⟨j + 1, false, ⟨_, _⟩, by omega, by go_num, rfl, by first | exact wd_merge _ _ _ _ _ | exact wd_mm3, Lib.hid (fun h => by cases h)⟩
                      case measure => simp [intOf]; omega
                    · go_roundw
                      case rel => exact ⟨j + 1, true, ⟨_, _⟩, by omega, by go_num, rfl, by first | exact wd_merge _ _ _ _ _ | exact wd_mm3, Lib.hid (fun h => ⟨(HB4.out (by trivial)).1, HST2.out (HB4.out (by trivial)).2 ⟨(by first | exact (by assumption : Hid (true = true → In61 rd)).out rfl | exact (by assumption : Hid (True → In61 rd)).out trivial | exact (by assumption : Hid (In61 rd)).out), (by first | exact (by assumption : Hid (true = true → In61 rt)).out rfl | exact (by assumption : Hid (True → In61 rt)).out trivial | exact (by assumption : Hid (In61 rt)).out)⟩⟩)⟩
                      case measure => simp [intOf]; omega
                · have HB5 : Hid (b3 = true → ((((In61 off ∧ In61 nx ∧ In61 ge) ∧ ∀ y ∈ ps, In61 y) ∧ ∀ y ∈ l.take k, TmB y.b) ∧ TmB ⟨b0, b1, b2', b3', b4, rs⟩)) := Lib.hid (by
                    have h := HB4.out
                    rw [List.take_of_length_le (l := rs) (by rw [HML.out]; omega)] at h
                    exact fun hb => ⟨(h hb).1.1, (h hb).1.2, (h hb).2⟩)
                  go_wp2
                  go_roundw
                  case rel => exact ⟨k + 1, b3, m, by omega, by go_num, rfl, rfl, Lib.hid (fun h => ⟨(HB5.out h).1.1, HSTEP.out (HB5.out h).1.2 (HB5.out h).2⟩)⟩
                  case measure => simp [intOf]; omega
            · go_wp2_with (first | (go_at_call 36; refine (in_any _ _).mono ?_; rintro e w2 hbr; obtain ⟨bl, rfl, ⟨x9, n9, rfl⟩, hbl⟩ := hbr.out; have HBL0 := Lib.hid hbl; clear hbr hbl))
              go_loopw [3, 6] (fun s3 s6 wr => ∃ (j : Nat) (b3 : Bool) (m : Ext), j ≤ M ∧ s6 = .int .i64 j ∧ s3 = .bool b3 ∧ wr = wd w [m.e, #[.cells #[.int .u8 k0, .int .i64 er, .int .i64 off, .int .i64 nx, .bool db, .int .i64 ge, .slice (some ⟨bb, boff, none⟩) N cap, .slice pa NP pc, nv] 46]] m.n ∧ Hid (b3 = true → ((((In61 off ∧ In61 nx ∧ In61 ge) ∧ ∀ y ∈ ps, In61 y) ∧ ∀ y ∈ l.take k, TmB y.b) ∧ In61 b0) ∧ ∀ y ∈ rs.take j, TmR y)) (fun _ s6 _ => M - (intOf s6).toNat)
              case atStart => exact ⟨0, _, ⟨_, _⟩, Nat.zero_le _, rfl, rfl, by first | rfl | exact wd_merge _ _ _ _ _, Lib.hid (HIN.out _ (fun h => ⟨HB2.out (by trivial), HBL0.out h⟩))⟩
              case round =>
                obtain ⟨j, b3, m, hj, rfl, rfl, rfl, HB4⟩ := hrel
                by_cases hjl : j < M
                · obtain ⟨r, hr⟩ : ∃ r, rs[j]? = some r := ⟨_, List.getElem?_eq_getElem (by rw [HML.out]; exact hjl)⟩
                  obtain ⟨rb, roff, rfl, hrb, r0, r1, r2, r3, r4, r5⟩ := recs_at HAT.out j r hr
                  have HST2 := Lib.hid (fun h1 h => take_oks (p := fun y : Rec => TmR y) h1 hr h)
                  clear hr
                  obtain ⟨rd, rt, rk, rkey, rdead, rval⟩ := r
                  dsimp only at r0 r1 r2 r3 r4 r5 HST2
                  cases b3
                  · go_wp2
                    go_roundw
                    case rel => exact ⟨j + 1, false, m, by omega, by go_num, rfl, rfl, Lib.hid (fun h => by cases h)⟩
                    case measure => simp [intOf]; omega
                  · go_wp2_with (first | (go_at_call 36; refine (in_any _ _).mono ?_; rintro e w2 hbr; obtain ⟨bl, rfl, ⟨x9, n9, rfl⟩, hbl⟩ := hbr.out; have HBL := Lib.hid hbl; clear hbr hbl; cases bl))
                    · go_roundw
                      case rel => exact ⟨j + 1, false, ⟨_, _⟩, by omega, by go_num, rfl, by first | exact wd_merge _ _ _ _ _ | exact wd_mm3, Lib.hid (fun h => by cases h)⟩
                      case measure => simp [intOf]; omega
                    · go_roundw
                      case rel => exact ⟨j + 1, false, ⟨_, _⟩, by omega, by go_num, rfl, by first | exact wd_merge _ _ _ _ _ | exact wd_mm3, Lib.hid (fun h => by cases h)⟩
                      case measure => simp [intOf]; omega
                    · go_roundw
                      case rel => exact ⟨j + 1, true, ⟨_, _⟩, by omega, by go_num, rfl, by first | exact wd_merge _ _ _ _ _ | exact wd_mm3, Lib.hid (fun h => ⟨(HB4.out (by trivial)).1, HST2.out (HB4.out (by trivial)).2 ⟨(by first | exact (by assumption : Hid (true = true → In61 rd)).out rfl | exact (by assumption : Hid (True → In61 rd)).out trivial | exact (by assumption : Hid (In61 rd)).out), (by first | exact (by assumption : Hid (true = true → In61 rt)).out rfl | exact (by assumption : Hid (True → In61 rt)).out trivial | exact (by assumption : Hid (In61 rt)).out)⟩⟩)⟩
                      case measure => simp [intOf]; omega
                · have HB5 : Hid (b3 = true → ((((In61 off ∧ In61 nx ∧ In61 ge) ∧ ∀ y ∈ ps, In61 y) ∧ ∀ y ∈ l.take k, TmB y.b) ∧ TmB ⟨b0, b1, b2', b3', b4, rs⟩)) := Lib.hid (by
                    have h := HB4.out
                    rw [List.take_of_length_le (l := rs) (by rw [HML.out]; omega)] at h
                    exact fun hb => ⟨(h hb).1.1, (h hb).1.2, (h hb).2⟩)
                  go_wp2
                  go_roundw
                  case rel => exact ⟨k + 1, b3, m, by omega, by go_num, rfl, rfl, Lib.hid (fun h => ⟨(HB5.out h).1.1, HSTEP.out (HB5.out h).1.2 (HB5.out h).2⟩)⟩
                  case measure => simp [intOf]; omega
          · have HB3 : Hid (b2 = true → Tm off nx ge ps l) := Lib.hid (by
              have h := HB2.out
              rw [List.take_of_length_le (l := l) (by rw [HN.out]; omega)] at h
              exact fun hb => ⟨(h hb).1.1, (h hb).1.2, (h hb).2⟩)
            go_wp2
            go_ret
            exact ⟨_, rfl, more_wd _ _ _, HB3.out⟩
structure Stm where
  s : Stp
  a : Option Addr
  cap : Nat
  f : Option Addr
  fc : Nat
def stmCells (x : Stm) : List Value := stpCells x.s x.a x.cap x.f x.fc
theorem cells_of : Tryz.prog.cellsOf 3 = 1 ∧ Tryz.prog.cellsOf 9 = 1 ∧ Tryz.prog.cellsOf 4 = 1 ∧ Tryz.prog.cellsOf 5 = 1 ∧ Tryz.prog.cellsOf 28 = 1 ∧ Tryz.prog.cellsOf 23 = 1 ∧ Tryz.prog.cellsOf 85 = 6 ∧ Tryz.prog.cellsOf 25 = 6 ∧ Tryz.prog.cellsOf 27 = 18 ∧ Tryz.prog.cellsOf 34 = 22 := by
  refine ⟨?_, ?_, ?_, ?_, ?_, ?_, ?_, ?_, ?_, ?_⟩ <;> kernel_rfl
theorem i64_wf {n : Int} (h : (Lit.int .i64 n).wf = true) : I64 n := by
  simp only [Lit.wf, Bool.and_eq_true, decide_eq_true_eq] at h
  exact h
theorem u8_wf {n : Int} (h : (Lit.int .u8 n).wf = true) : 0 ≤ n ∧ n < 256 := by
  simp only [Lit.wf, Bool.and_eq_true, decide_eq_true_eq] at h
  have h2 : n ≤ 255 := h.2
  exact ⟨h.1, by omega⟩
theorem rows_rd {α : Type} [Inhabited α] {w : World} {t e : TypeId} {cs : List Value} {size : Nat} {cells : α → List Value} {p : α → Prop} (ht : Tryz.prog.underlying t = some (.slice e)) (hsz : Tryz.prog.cellsOf e = size) (hpos : 0 < size) (hlen : ∀ x, (cells x).length = size)
    (hel : ∀ cs, Rd Tryz.prog w e cs → ∃ x : α, cs = cells x ∧ p x) (h : Rd Tryz.prog w t cs) : ∃ (a : Option Addr) (cap : Nat) (l : List α), cs = [.slice a l.length cap] ∧ RowAt cells size w a l ∧ (∀ x ∈ l, p x) ∧ l.length ≤ cap ∧ cap ≤ maxLen := by
  rcases h.slice ht (by omega) with ⟨a, cap, rfl, hm⟩ | ⟨b, off, len, cap, rfl, h0, hl, hm, hb, hcells⟩
  · exact ⟨a, cap, [], rfl, RowAt.nil _, fun x hx => by simp at hx, Nat.zero_le _, hm⟩
  · rw [hsz] at hcells
    have key : ∀ k, ∃ x : α, k < len → p x ∧ ∀ j, j < size → w.cell? ⟨b, off + (k * size + j), none⟩ = (cells x)[j]? := fun k => by
      by_cases hk : k < len
      · obtain ⟨cs', _, hr, hc⟩ := hcells k hk
        obtain ⟨x, rfl, hp⟩ := hel cs' hr
        exact ⟨x, fun _ => ⟨hp, hc⟩⟩
      · exact ⟨default, fun h => absurd h hk⟩
    obtain ⟨f, hf⟩ := Classical.axiomOfChoice key
    have hr := rdrow_of_fn cells size hlen hpos (cap := cap) f hb (fun k hk => (hf k hk).2)
    have hll : ((List.range len).map f).length = len := by simp
    refine ⟨some ⟨b, off, none⟩, cap, (List.range len).map f, by rw [hll], RowAt.of_rd (cap := cap) ?_, ?_, by rw [hll]; exact hl, hm⟩
    · rw [hll] at hr ⊢; exact hr
    · intro x hx
      obtain ⟨k, hk, rfl⟩ := List.mem_map.1 hx
      exact (hf k (by simpa using hk)).1
theorem flat_one (l : List UInt8) : l.flatMap (fun x => [Value.int .u8 x.toNat]) = l.map (fun b => Value.int .u8 b.toNat) := by
  induction l with
  | nil => rfl
  | cons x l ih => rw [List.flatMap_cons, List.map_cons, ih]; rfl
theorem seg {α : Type} (cs : List α) (k m : Nat) : cs.drop k = (cs.drop k).take m ++ cs.drop (k + m) := by
  rw [← List.drop_drop]; exact (List.take_append_drop m _).symm
theorem byte_rd {w : World} {cs : List Value} (h : Rd Tryz.prog w 5 cs) : ∃ x : UInt8, cs = [.int .u8 x.toNat] := by
  obtain ⟨n, rfl, hw⟩ := h.int Tryz.underlying5
  obtain ⟨h1, h2⟩ := u8_wf hw
  refine ⟨UInt8.ofNat n.toNat, ?_⟩
  rw [u8_toNat _ (by omega), Int.toNat_of_nonneg h1]
theorem bytes_rd {w : World} {cs : List Value} (h : Rd Tryz.prog w 28 cs) : ∃ (a : Option Addr) (cap : Nat) (l : List UInt8), cs = [.slice a l.length cap] ∧ RB w (.slice a l.length cap) l := by
  obtain ⟨a, cap, l, rfl, hr, _, h1, h2⟩ := rows_rd (cells := fun x : UInt8 => [Value.int .u8 x.toNat]) (size := 1) (p := fun _ => True) Tryz.underlying28 cells_of.2.2.2.1 (by decide) (fun _ => rfl) (fun cs hcs => by obtain ⟨x, hx⟩ := byte_rd hcs; exact ⟨x, hx, trivial⟩) h
  refine ⟨a, cap, l, rfl, a, cap, rfl, h1, h2, fun hne => ?_⟩
  obtain ⟨b, off, ha, hb, hc⟩ := hr.out hne
  refine ⟨b, off, ha, hb, fun i hi => ?_⟩
  rw [hc i (by omega)]
  rw [flat_one]; rfl
theorem str_ex (s : ByteArray) : ∃ l : List UInt8, s = str l ∧ l.length = s.size := ⟨s.data.toList, (str_of s).symm, by simp⟩
theorem rec_rd {w : World} {cs : List Value} (h : Rd Tryz.prog w 85 cs) : ∃ x : Rec, cs = recCells x ∧ x.wf ∧ x.key.length ≤ maxLen ∧ x.value.length ≤ maxLen := by
  obtain ⟨ci, cst, cb, _, _, _, cr, _⟩ := cells_of
  obtain ⟨hl, hf⟩ := h.struct Tryz.underlying85
  rw [cr] at hl
  obtain ⟨n0, e0, w0⟩ := (hf 0 _ rfl).int Tryz.underlying3
  obtain ⟨n1, e1, w1⟩ := (hf 1 _ rfl).int Tryz.underlying3
  obtain ⟨b2, e2⟩ := (hf 2 _ rfl).bool Tryz.underlying4
  obtain ⟨s3, e3, m3⟩ := (hf 3 _ rfl).string Tryz.underlying9
  obtain ⟨b4, e4⟩ := (hf 4 _ rfl).bool Tryz.underlying4
  obtain ⟨s5, e5, m5⟩ := (hf 5 _ rfl).string Tryz.underlying9
  obtain ⟨l3, rfl, g3'⟩ := str_ex s3
  obtain ⟨l5, rfl, g5'⟩ := str_ex s5
  have e0 : (cs.drop 0).take (Tryz.prog.cellsOf 3) = _ := e0
  rw [ci] at e0
  have e1 : (cs.drop 1).take (Tryz.prog.cellsOf 3) = _ := e1
  rw [ci] at e1
  have e2 : (cs.drop 2).take (Tryz.prog.cellsOf 4) = _ := e2
  rw [cb] at e2
  have e3 : (cs.drop 3).take (Tryz.prog.cellsOf 9) = _ := e3
  rw [cst] at e3
  have e4 : (cs.drop 4).take (Tryz.prog.cellsOf 4) = _ := e4
  rw [cb] at e4
  have e5 : (cs.drop 5).take (Tryz.prog.cellsOf 9) = _ := e5
  rw [cst] at e5
  have g0 := seg cs 0 1
  rw [e0] at g0
  have g1 := seg cs 1 1
  rw [e1] at g1
  have g2 := seg cs 2 1
  rw [e2] at g2
  have g3 := seg cs 3 1
  rw [e3] at g3
  have g4 := seg cs 4 1
  rw [e4] at g4
  have g5 := seg cs 5 1
  rw [e5] at g5
  have gz : cs.drop 6 = [] := List.drop_eq_nil_of_le (by omega)
  have hcs : cs = _ := (List.drop_zero (l := cs)).symm.trans g0
  simp only [Nat.zero_add, Nat.reduceAdd] at g0 g1 g2 g3 g4 g5 hcs
  rw [g1, g2, g3, g4, g5, gz] at hcs
  exact ⟨⟨n0, n1, b2, l3, b4, l5⟩, hcs, ⟨i64_wf w0, i64_wf w1⟩, by rw [g3']; exact m3, by rw [g5']; exact m5⟩
theorem recs_rd {w : World} {cs : List Value} (h : Rd Tryz.prog w 23 cs) : ∃ (a : Option Addr) (cap : Nat) (l : List Rec), cs = [.slice a l.length cap] ∧ RecsAt w a l ∧ (∀ x ∈ l, x.key.length ≤ maxLen ∧ x.value.length ≤ maxLen) ∧ l.length ≤ maxLen := by
  obtain ⟨a, cap, l, h1, h2, h3, h4, h5⟩ := rows_rd (cells := recCells) (size := 6) (p := fun x => x.key.length ≤ maxLen ∧ x.value.length ≤ maxLen) Tryz.underlying23 cells_of.2.2.2.2.2.2.1 (by decide) recCells_len (fun cs hcs => by obtain ⟨x, hx, _, hw⟩ := rec_rd hcs; exact ⟨x, hx, hw⟩) h
  exact ⟨a, cap, l, h1, h2, h3, Nat.le_trans h4 h5⟩
def batCells (b : Bat) (a : Option Addr) (cap : Nat) : List Value := [.int .i64 b.base, .int .i64 b.count, .int .i64 b.producer, .int .i64 b.epoch, .int .i64 b.seq, .slice a b.recs.length cap]
theorem bat_rd {w : World} {cs : List Value} (h : Rd Tryz.prog w 25 cs) : ∃ (b : Bat) (a : Option Addr) (cap : Nat), cs = batCells b a cap ∧ RecsAt w a b.recs ∧ b.wf ∧ (∀ x ∈ b.recs, x.key.length ≤ maxLen ∧ x.value.length ≤ maxLen) ∧ b.recs.length ≤ maxLen := by
  obtain ⟨ci, cst, cb, _, _, crs, cr, cbt, _⟩ := cells_of
  obtain ⟨hl, hf⟩ := h.struct Tryz.underlying25
  rw [cbt] at hl
  obtain ⟨n0, e0, w0⟩ := (hf 0 _ rfl).int Tryz.underlying3
  obtain ⟨n1, e1, w1⟩ := (hf 1 _ rfl).int Tryz.underlying3
  obtain ⟨n2, e2, w2⟩ := (hf 2 _ rfl).int Tryz.underlying3
  obtain ⟨n3, e3, w3⟩ := (hf 3 _ rfl).int Tryz.underlying3
  obtain ⟨n4, e4, w4⟩ := (hf 4 _ rfl).int Tryz.underlying3
  obtain ⟨a, cap, l, e5, hr, hw, hm⟩ := recs_rd (hf 5 _ rfl)
  have e0 : (cs.drop 0).take (Tryz.prog.cellsOf 3) = _ := e0
  rw [ci] at e0
  have e1 : (cs.drop 1).take (Tryz.prog.cellsOf 3) = _ := e1
  rw [ci] at e1
  have e2 : (cs.drop 2).take (Tryz.prog.cellsOf 3) = _ := e2
  rw [ci] at e2
  have e3 : (cs.drop 3).take (Tryz.prog.cellsOf 3) = _ := e3
  rw [ci] at e3
  have e4 : (cs.drop 4).take (Tryz.prog.cellsOf 3) = _ := e4
  rw [ci] at e4
  have e5 : (cs.drop 5).take (Tryz.prog.cellsOf 23) = _ := e5
  rw [crs] at e5
  have g0 := seg cs 0 1
  rw [e0] at g0
  have g1 := seg cs 1 1
  rw [e1] at g1
  have g2 := seg cs 2 1
  rw [e2] at g2
  have g3 := seg cs 3 1
  rw [e3] at g3
  have g4 := seg cs 4 1
  rw [e4] at g4
  have g5 := seg cs 5 1
  rw [e5] at g5
  have gz : cs.drop 6 = [] := List.drop_eq_nil_of_le (by omega)
  have hcs : cs = _ := (List.drop_zero (l := cs)).symm.trans g0
  simp only [Nat.zero_add, Nat.reduceAdd] at g0 g1 g2 g3 g4 g5 hcs
  rw [g1, g2, g3, g4, g5, gz] at hcs
  exact ⟨⟨n0, n1, n2, n3, n4, l⟩, a, cap, hcs, hr, ⟨i64_wf w0, i64_wf w1, i64_wf w2, i64_wf w3, i64_wf w4⟩, hw, hm⟩
theorem req_rd {w : World} {cs : List Value} (h : Rd Tryz.prog w 27 cs) : ∃ (q : Req) (a : Option Addr) (cap : Nat), cs = reqCells q a cap ∧ RecsAt w a q.batch.recs ∧ q.kind < 256 ∧ q.wf ∧ q.topic.length ≤ maxLen ∧ q.group.length ≤ maxLen ∧ q.member.length ≤ maxLen ∧ q.batch.recs.length ≤ maxLen := by
  obtain ⟨ci, cst, cb, cu, _, crs, cr, cbt, cq, _⟩ := cells_of
  obtain ⟨hl, hf⟩ := h.struct Tryz.underlying27
  rw [cq] at hl
  obtain ⟨k0, e0, w0⟩ := (hf 0 _ rfl).int Tryz.underlying5
  obtain ⟨s1, e1, m1⟩ := (hf 1 _ rfl).string Tryz.underlying9
  obtain ⟨n2, e2, w2⟩ := (hf 2 _ rfl).int Tryz.underlying3
  obtain ⟨n3, e3, w3⟩ := (hf 3 _ rfl).int Tryz.underlying3
  obtain ⟨b4, e4⟩ := (hf 4 _ rfl).bool Tryz.underlying4
  obtain ⟨b5, e5⟩ := (hf 5 _ rfl).bool Tryz.underlying4
  obtain ⟨n6, e6, w6⟩ := (hf 6 _ rfl).int Tryz.underlying3
  obtain ⟨n7, e7, w7⟩ := (hf 7 _ rfl).int Tryz.underlying3
  obtain ⟨n8, e8, w8⟩ := (hf 8 _ rfl).int Tryz.underlying3
  obtain ⟨s9, e9, m9⟩ := (hf 9 _ rfl).string Tryz.underlying9
  obtain ⟨s10, e10, m10⟩ := (hf 10 _ rfl).string Tryz.underlying9
  obtain ⟨n11, e11, w11⟩ := (hf 11 _ rfl).int Tryz.underlying3
  obtain ⟨b, a, cap, e12, hr, hbw, hw, hm⟩ := bat_rd (hf 12 _ rfl)
  obtain ⟨l1, rfl, g1'⟩ := str_ex s1
  obtain ⟨l9, rfl, g9'⟩ := str_ex s9
  obtain ⟨l10, rfl, g10'⟩ := str_ex s10
  obtain ⟨u1, u2⟩ := u8_wf w0
  have e0 : (cs.drop 0).take (Tryz.prog.cellsOf 5) = _ := e0
  rw [cu] at e0
  have e1 : (cs.drop 1).take (Tryz.prog.cellsOf 9) = _ := e1
  rw [cst] at e1
  have e2 : (cs.drop 2).take (Tryz.prog.cellsOf 3) = _ := e2
  rw [ci] at e2
  have e3 : (cs.drop 3).take (Tryz.prog.cellsOf 3) = _ := e3
  rw [ci] at e3
  have e4 : (cs.drop 4).take (Tryz.prog.cellsOf 4) = _ := e4
  rw [cb] at e4
  have e5 : (cs.drop 5).take (Tryz.prog.cellsOf 4) = _ := e5
  rw [cb] at e5
  have e6 : (cs.drop 6).take (Tryz.prog.cellsOf 3) = _ := e6
  rw [ci] at e6
  have e7 : (cs.drop 7).take (Tryz.prog.cellsOf 3) = _ := e7
  rw [ci] at e7
  have e8 : (cs.drop 8).take (Tryz.prog.cellsOf 3) = _ := e8
  rw [ci] at e8
  have e9 : (cs.drop 9).take (Tryz.prog.cellsOf 9) = _ := e9
  rw [cst] at e9
  have e10 : (cs.drop 10).take (Tryz.prog.cellsOf 9) = _ := e10
  rw [cst] at e10
  have e11 : (cs.drop 11).take (Tryz.prog.cellsOf 3) = _ := e11
  rw [ci] at e11
  have e12 : (cs.drop 12).take (Tryz.prog.cellsOf 25) = _ := e12
  rw [cbt] at e12
  have g0 := seg cs 0 1
  rw [e0] at g0
  have g1 := seg cs 1 1
  rw [e1] at g1
  have g2 := seg cs 2 1
  rw [e2] at g2
  have g3 := seg cs 3 1
  rw [e3] at g3
  have g4 := seg cs 4 1
  rw [e4] at g4
  have g5 := seg cs 5 1
  rw [e5] at g5
  have g6 := seg cs 6 1
  rw [e6] at g6
  have g7 := seg cs 7 1
  rw [e7] at g7
  have g8 := seg cs 8 1
  rw [e8] at g8
  have g9 := seg cs 9 1
  rw [e9] at g9
  have g10 := seg cs 10 1
  rw [e10] at g10
  have g11 := seg cs 11 1
  rw [e11] at g11
  have g12 := seg cs 12 6
  rw [e12] at g12
  have gz : cs.drop 18 = [] := List.drop_eq_nil_of_le (by omega)
  have hcs : cs = _ := (List.drop_zero (l := cs)).symm.trans g0
  simp only [Nat.zero_add, Nat.reduceAdd] at g0 g1 g2 g3 g4 g5 g6 g7 g8 g9 g10 g11 g12 hcs
  rw [g1, g2, g3, g4, g5, g6, g7, g8, g9, g10, g11, g12, gz] at hcs
  refine ⟨⟨k0.toNat, l1, n2, n3, b4, b5, n6, n7, n8, l9, l10, n11, b⟩, a, cap, ?_, hr, by dsimp only; omega, ⟨i64_wf w2, i64_wf w3, i64_wf w6, i64_wf w7, i64_wf w8, i64_wf w11⟩, by rw [g1']; exact m1, by rw [g9']; exact m9, by rw [g10']; exact m10, hm⟩
  rw [hcs]
  simp [reqCells, batCells, Int.toNat_of_nonneg u1]
theorem stp_rd {w : World} {cs : List Value} (h : Rd Tryz.prog w 34 cs) : ∃ x : Stm, cs = stmCells x ∧ StpAt w x.s x.a x.f x.fc ∧ StpLen x.s := by
  obtain ⟨ci, cst, cb, cu, cby, crs, cr, cbt, cq, cs0⟩ := cells_of
  obtain ⟨hl, hf⟩ := h.struct Tryz.underlying34
  rw [cs0] at hl
  obtain ⟨k0, e0, w0⟩ := (hf 0 _ rfl).int Tryz.underlying5
  obtain ⟨q, a, cap, e1, hr, hk, hw, t1, t2, t3, hm⟩ := req_rd (hf 1 _ rfl)
  obtain ⟨n, e2, w2⟩ := (hf 2 _ rfl).int Tryz.underlying3
  obtain ⟨d, e3⟩ := (hf 3 _ rfl).bool Tryz.underlying4
  obtain ⟨f, fc, l, e4, hrb⟩ := bytes_rd (hf 4 _ rfl)
  obtain ⟨u1, u2⟩ := u8_wf w0
  refine ⟨⟨⟨k0.toNat, q, n, d, l⟩, a, cap, f, fc⟩, ?_, ⟨hr, hrb⟩, ⟨t1, t2, t3, hm, by obtain ⟨_, _, _, g1, g2, _⟩ := hrb; exact Nat.le_trans g1 g2⟩⟩
  have e0 : (cs.drop 0).take (Tryz.prog.cellsOf 5) = _ := e0
  rw [cu] at e0
  have e1 : (cs.drop 1).take (Tryz.prog.cellsOf 27) = _ := e1
  rw [cq] at e1
  have e2 : (cs.drop 19).take (Tryz.prog.cellsOf 3) = _ := e2
  rw [ci] at e2
  have e3 : (cs.drop 20).take (Tryz.prog.cellsOf 4) = _ := e3
  rw [cb] at e3
  have e4 : (cs.drop 21).take (Tryz.prog.cellsOf 28) = _ := e4
  rw [cby] at e4
  have g0 := seg cs 0 1
  rw [e0] at g0
  have g1 := seg cs 1 18
  rw [e1] at g1
  have g2 := seg cs 19 1
  rw [e2] at g2
  have g3 := seg cs 20 1
  rw [e3] at g3
  have g4 := seg cs 21 1
  rw [e4] at g4
  have gz : cs.drop 22 = [] := List.drop_eq_nil_of_le (by omega)
  have hcs : cs = _ := (List.drop_zero (l := cs)).symm.trans g0
  simp only [Nat.zero_add, Nat.reduceAdd] at g0 g1 g2 g3 g4 hcs
  rw [g1, g2, g3, g4, gz] at hcs
  rw [hcs]
  simp [stmCells, stpCells, Int.toNat_of_nonneg u1]
theorem cells_of2 : Tryz.prog.cellsOf 31 = 1 ∧ Tryz.prog.cellsOf 43 = 1 ∧ Tryz.prog.cellsOf 44 = 1 ∧ Tryz.prog.cellsOf 39 = 1 ∧ Tryz.prog.cellsOf 46 = 9 := by
  refine ⟨?_, ?_, ?_, ?_, ?_⟩ <;> kernel_rfl
theorem btm_rd {w : World} {cs : List Value} (h : Rd Tryz.prog w 25 cs) : ∃ x : Btm, cs = btmCells x ∧ RecsAt w x.a x.b.recs ∧ x.b.recs.length ≤ maxLen ∧ ∀ r ∈ x.b.recs, r.key.length ≤ maxLen ∧ r.value.length ≤ maxLen := by
  obtain ⟨b, a, cap, rfl, h1, _, h2, h3⟩ := bat_rd h
  exact ⟨⟨b, a, cap⟩, rfl, h1, h3, h2⟩
theorem bats_rd {w : World} {cs : List Value} (h : Rd Tryz.prog w 43 cs) : ∃ (a : Option Addr) (cap : Nat) (l : List Btm), cs = [.slice a l.length cap] ∧ BatsAt w a l ∧ (∀ x ∈ l, x.b.recs.length ≤ maxLen) ∧ (∀ x ∈ l, ∀ r ∈ x.b.recs, r.key.length ≤ maxLen ∧ r.value.length ≤ maxLen) ∧ l.length ≤ maxLen := by
  obtain ⟨a, cap, l, h1, h2, h3, h4, h5⟩ := rows_rd (cells := btmCells) (size := 6) (p := fun x => RecsAt w x.a x.b.recs ∧ x.b.recs.length ≤ maxLen ∧ ∀ r ∈ x.b.recs, r.key.length ≤ maxLen ∧ r.value.length ≤ maxLen) Tryz.underlying43 cells_of.2.2.2.2.2.2.2.1 (by decide) btmCells_len (fun cs hcs => by obtain ⟨x, hx, hw⟩ := btm_rd hcs; exact ⟨x, hx, hw⟩) h
  exact ⟨a, cap, l, h1, ⟨h2, fun x hx => (h3 x hx).1⟩, fun x hx => (h3 x hx).2.1, fun x hx => (h3 x hx).2.2, Nat.le_trans h4 h5⟩
theorem ints_rd {w : World} {cs : List Value} (h : Rd Tryz.prog w 44 cs) : ∃ (a : Option Addr) (cap : Nat) (l : List Int), cs = [.slice a l.length cap] ∧ ZRd w (.slice a l.length cap) l := by
  obtain ⟨a, cap, l, h1, h2, h3, h4, h5⟩ := rows_rd (cells := fun n : Int => [Value.int .i64 n]) (size := 1) (p := fun _ => True) Tryz.underlying44 cells_of.1 (by decide) (fun _ => rfl) (fun cs hcs => by obtain ⟨n, hn, _⟩ := hcs.int Tryz.underlying3; exact ⟨n, hn, trivial⟩) h
  refine ⟨a, cap, l, h1, ⟨a, cap, rfl, h4, h5, fun hne => ?_⟩⟩
  obtain ⟨b, off, ha, hb, hc⟩ := h2.out hne
  refine ⟨b, off, ha, hb, fun i n hi => ?_⟩
  have hl := (List.getElem?_eq_some_iff.1 hi).1
  rw [hc i (by omega)]
  have : l.flatMap (fun n : Int => [Value.int .i64 n]) = l.map (fun n => Value.int .i64 n) := by
    clear hc h2 h1 h3 h4 h5 hi hl hne
    induction l with
    | nil => rfl
    | cons x l ih => rw [List.flatMap_cons, List.map_cons, ih]; rfl
  rw [this, List.getElem?_map, hi]; rfl
theorem strs_rd {w : World} {cs : List Value} (h : Rd Tryz.prog w 39 cs) : ∃ (a : Option Addr) (cap : Nat) (l : List Word), cs = [.slice a l.length cap] ∧ NRd w a l ∧ l.length ≤ cap ∧ cap ≤ maxLen := by
  obtain ⟨a, cap, l, h1, h2, h3, h4, h5⟩ := rows_rd (cells := fun s : Word => [Value.string (str s)]) (size := 1) (p := fun s => s.length ≤ maxLen) Tryz.underlying39 cells_of.2.1 (by decide) (fun _ => rfl) (fun cs hcs => by
    obtain ⟨s, hs, hm⟩ := hcs.string Tryz.underlying9
    obtain ⟨q, rfl, hq⟩ := str_ex s
    exact ⟨q, hs, by rw [hq]; exact hm⟩) h
  refine ⟨a, cap, l, h1, ⟨fun hne => ?_, h3⟩, h4, h5⟩
  obtain ⟨b, off, ha, hb, hc⟩ := h2.out hne
  refine ⟨b, off, ha, hb, fun i n hi => ?_⟩
  have hl := (List.getElem?_eq_some_iff.1 hi).1
  rw [hc i (by omega)]
  have : l.flatMap (fun s : Word => [Value.string (str s)]) = l.map (fun s => Value.string (str s)) := by
    clear hc h2 h1 h3 h4 h5 hi hl hne
    induction l with
    | nil => rfl
    | cons x l ih => rw [List.flatMap_cons, List.map_cons, ih]; rfl
  rw [this, List.getElem?_map, hi]; rfl
structure Rsp where
  k0 : Int
  er : Int
  off : Int
  nx : Int
  db : Bool
  ge : Int
  ad : Option Addr
  cap : Nat
  l : List Btm
  pa : Option Addr
  pc : Nat
  ps : List Int
  na : Option Addr
  nc : Nat
  ns : List Word
def rspCells (x : Rsp) : List Value := [.int .u8 x.k0, .int .i64 x.er, .int .i64 x.off, .int .i64 x.nx, .bool x.db, .int .i64 x.ge, .slice x.ad x.l.length x.cap, .slice x.pa x.ps.length x.pc, .slice x.na x.ns.length x.nc]
structure RspAt (w : World) (x : Rsp) : Prop where
  bats : BatsAt w x.ad x.l
  rl : ∀ y ∈ x.l, y.b.recs.length ≤ maxLen
  kv : ∀ y ∈ x.l, ∀ r ∈ y.b.recs, r.key.length ≤ maxLen ∧ r.value.length ≤ maxLen
  ll : x.l.length ≤ maxLen
  parts : ZRd w (.slice x.pa x.ps.length x.pc) x.ps
  names : NRd w x.na x.ns
  nl : x.ns.length ≤ x.nc
  nm : x.nc ≤ maxLen
theorem rsp_rd {w : World} {cs : List Value} (h : Rd Tryz.prog w 46 cs) : ∃ x : Rsp, cs = rspCells x ∧ RspAt w x := by
  obtain ⟨ci, cst, cb, cu, _⟩ := cells_of
  obtain ⟨ce, cbs, cis, css, cr⟩ := cells_of2
  obtain ⟨hl, hf⟩ := h.struct Tryz.underlying46
  rw [cr] at hl
  obtain ⟨n0, e0, w0⟩ := (hf 0 _ rfl).int Tryz.underlying5
  obtain ⟨n1, e1, w1⟩ := (hf 1 _ rfl).int Tryz.underlying31
  obtain ⟨n2, e2, w2⟩ := (hf 2 _ rfl).int Tryz.underlying3
  obtain ⟨n3, e3, w3⟩ := (hf 3 _ rfl).int Tryz.underlying3
  obtain ⟨b4, e4⟩ := (hf 4 _ rfl).bool Tryz.underlying4
  obtain ⟨n5, e5, w5⟩ := (hf 5 _ rfl).int Tryz.underlying3
  obtain ⟨ad, cap, l, e6, h1, h2, h3, h4⟩ := bats_rd (hf 6 _ rfl)
  obtain ⟨pa, pc, ps, e7, h5⟩ := ints_rd (hf 7 _ rfl)
  obtain ⟨na, nc, ns, e8, h6, h7, h8⟩ := strs_rd (hf 8 _ rfl)
  have e0 : (cs.drop 0).take (Tryz.prog.cellsOf 5) = _ := e0
  rw [cu] at e0
  have e1 : (cs.drop 1).take (Tryz.prog.cellsOf 31) = _ := e1
  rw [ce] at e1
  have e2 : (cs.drop 2).take (Tryz.prog.cellsOf 3) = _ := e2
  rw [ci] at e2
  have e3 : (cs.drop 3).take (Tryz.prog.cellsOf 3) = _ := e3
  rw [ci] at e3
  have e4 : (cs.drop 4).take (Tryz.prog.cellsOf 4) = _ := e4
  rw [cb] at e4
  have e5 : (cs.drop 5).take (Tryz.prog.cellsOf 3) = _ := e5
  rw [ci] at e5
  have e6 : (cs.drop 6).take (Tryz.prog.cellsOf 43) = _ := e6
  rw [cbs] at e6
  have e7 : (cs.drop 7).take (Tryz.prog.cellsOf 44) = _ := e7
  rw [cis] at e7
  have e8 : (cs.drop 8).take (Tryz.prog.cellsOf 39) = _ := e8
  rw [css] at e8
  have g0 := seg cs 0 1
  rw [e0] at g0
  have g1 := seg cs 1 1
  rw [e1] at g1
  have g2 := seg cs 2 1
  rw [e2] at g2
  have g3 := seg cs 3 1
  rw [e3] at g3
  have g4 := seg cs 4 1
  rw [e4] at g4
  have g5 := seg cs 5 1
  rw [e5] at g5
  have g6 := seg cs 6 1
  rw [e6] at g6
  have g7 := seg cs 7 1
  rw [e7] at g7
  have g8 := seg cs 8 1
  rw [e8] at g8
  have gz : cs.drop 9 = [] := List.drop_eq_nil_of_le (by omega)
  have hcs : cs = _ := (List.drop_zero (l := cs)).symm.trans g0
  simp only [Nat.zero_add, Nat.reduceAdd] at g0 g1 g2 g3 g4 g5 g6 g7 g8 hcs
  rw [g1, g2, g3, g4, g5, g6, g7, g8, gz] at hcs
  exact ⟨⟨n0, n1, n2, n3, b4, n5, ad, cap, l, pa, pc, ps, na, nc, ns⟩, hcs, ⟨h1, h2, h3, h4, h5, h6, h7, h8⟩⟩
end Go.Proofs.YtifoekadjnlhcaaGreatDoor
