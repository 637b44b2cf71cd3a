/- law 30: awake. -/
import Derived.Test.YtejokhgabcldhaaDoorOA
import Derived.Test.YtejokhgabcldhaaDoorNT
import Derived.Test.YtejokhgabcldhaaDoorNG
namespace Go.Proofs.YtejokhgabcldhaaDoor
open Go.ChangeShapes Go.WideShapes Go.ChangeAt Go.RowKit
set_option linter.unusedVariables false
set_option linter.unusedSimpArgs false

def txtA : List UInt8 := [98, 97, 116, 99, 104, 32, 53, 32, 49, 32, 48, 32, 48, 32, 48, 32, 49, 10, 114, 101, 99, 111, 114, 100, 32, 48, 32, 57, 32, 107, 32, 107, 32, 118, 10]
def txtB : List UInt8 := [98, 97, 116, 99, 104, 32, 53, 32, 49, 32, 48, 32, 48, 32, 48, 32, 49, 10, 114, 101, 99, 111, 114, 100, 32, 48, 32, 57, 32, 107, 32, 107, 32, 10]
def oneR : Rec := ⟨0, 9, true, [107], false, [118]⟩
def oneB : Bat := ⟨5, 1, 0, 0, 0, [oneR]⟩
theorem digN_d (n : Nat) (h : n < 10) : digN (n : Int) = [UInt8.ofNat (48 + n)] := by
  unfold digN; rw [if_neg (by omega), Int.toNat_natCast, digs_small h]
theorem dg0 : digN 0 = [48] := digN_d 0 (by decide)
theorem dg1 : digN 1 = [49] := digN_d 1 (by decide)
theorem dg5 : digN 5 = [53] := digN_d 5 (by decide)
theorem dg9 : digN 9 = [57] := digN_d 9 (by decide)
theorem batLay_le {b : Bat} (h : batNum b = 0) (hr : b.recs.length ≤ 1) : (batLay b).length ≤ 8192 := by
  have h1 := numsB_len _ (head_wf (Bat.wf_ok h) (by omega))
  have h2 := recsB_len b.recs
  have e : (batHead b).length = 6 := rfl
  unfold batLay
  rw [List.length_append]; omega
theorem one_check : batCheck oneB = 0 := batCheck_mk (by decide) (by decide) (batLay_le (by decide) (by decide))
def lineA : List UInt8 := [98, 97, 116, 99, 104, 32, 53, 32, 49, 32, 48, 32, 48, 32, 48, 32, 49]
def lineB2 : List UInt8 := [114, 101, 99, 111, 114, 100, 32, 48, 32, 57, 32, 107, 32, 107, 32]
theorem one_first : firstLine oneB 1 = lineA := by
  unfold firstLine firstWords oneB
  simp only [dg0, dg1, dg5]
  rfl
theorem one_rec : recLine oneR = [114, 101, 99, 111, 114, 100, 32, 48, 32, 57, 32, 107, 32, 107, 32, 118] := by
  unfold recLine recWords recTail oneR
  simp only [dg0, dg9]
  rfl
theorem one_text : textOf [oneB] = (txtA, 0) := by
  rw [textOf_all (by decide) (by intro b hb; simp at hb; subst hb; exact one_check)]
  show ((lineB (firstLine oneB 1) ++ (lineB (recLine oneR) ++ [])) ++ [], (0 : Int)) = _
  rw [one_first, one_rec]
  rfl
theorem one_read : dumpRead txtA = ([oneB], 0, 0) := dump_back one_text (by decide)
theorem two_lines : linesOf txtB = [lineA, lineB2] := by decide
theorem nd0 : numD [48] = 0 := by rw [← dg0]; exact numD_dig (by decide) (by decide)
theorem nd1 : numD [49] = 1 := by rw [← dg1]; exact numD_dig (by decide) (by decide)
theorem nd5 : numD [53] = 5 := by rw [← dg5]; exact numD_dig (by decide) (by decide)
theorem two_split : splitC 32 lineA = [batWord, [53], [49], [48], [48], [48], [49]] := by decide
theorem two_head : headOf (splitC 32 lineA) = ⟨5, 1, 0, 0, 0, []⟩ := by
  rw [two_split]; show (⟨numD [53], numD [49], numD [48], numD [48], numD [48], []⟩ : Bat) = _
  rw [nd5, nd1, nd0]
theorem two_size : sizeOfW (splitC 32 lineA) = 1 := by
  rw [two_split]; show numD [49] = _
  rw [nd1]
theorem two_first : firstLine ⟨5, 1, 0, 0, 0, []⟩ 1 = lineA := by
  unfold firstLine firstWords
  simp only [dg0, dg1, dg5]
  rfl
theorem two_may : mayB ⟨5, 1, 0, 0, 0, []⟩ 1 = true := by
  have h : batCheck ⟨5, 1, 0, 0, 0, [smallR 0]⟩ = 0 := batCheck_mk (by decide) (by decide) (batLay_le (by decide) (by decide))
  unfold mayB
  simp only [Bool.and_eq_true, decide_eq_true_eq]
  exact ⟨by decide, h⟩
theorem two_rec : (recOf lineB2).2 = false := by
  have hs : splitC 32 lineB2 = [recWord, [48], [57], [107], [107], []] := by decide
  rw [recOf_long (s := lineB2) (w1 := [48]) (w2 := [57]) (w3 := [107]) (w4 := [107]) (by rw [hs]; rfl) (by rw [hs]; rfl) (by rw [hs]; rfl) (by rw [hs]; rfl), hs]
  have h1 : (unquote (joinC 32 (List.drop 5 [recWord, [48], [57], [107], [107], []]))).2 = false := by decide
  rw [h1]
  unfold recOk
  simp
theorem two_bat : readBat [lineA, lineB2] = (Bat.zero, 2, false) := by
  rw [readBat_on (by rw [two_split]; rfl) two_head two_size two_first two_may]
  exact readRecs_bad (by rw [two_rec]; rfl)
theorem two_read : dumpRead txtB = ([], 2, 4) := by
  have h : readL (linesOf txtB).length (linesOf txtB) 0 [] = (none, 2) := by
    rw [two_lines]
    exact readL_bad (by simp) (by decide) two_bat
  rw [dumpRead_none (by decide) (by decide) h, if_pos (by decide)]
theorem un_ab : unquote [97, 37, 50, 48, 98, 37, 50, 53] = ([97, 32, 98, 37], true) := unquote_quote [97, 32, 98, 37]
/-- The one batch, handed back. -/
structure OneRet (w w' : World) (x : Ending) : Prop where
  out : ∃ (b : Nat), x = .returned (.agg #[.int .i64 5, .int .i64 1, .int .i64 0, .int .i64 0, .int .i64 0, .slice (some ⟨b, 0, none⟩) 1 1]) ∧ RecsAt w' (some ⟨b, 0, none⟩) [oneR] ∧ More w w'
set_option maxRecDepth 100000 in
set_option maxHeartbeats 1600000 in
theorem one_any (w : World) : Calls Tryd.prog 21 #[] w fun x w' => OneRet w w' x := by
  refine calls_wd ?_
  go_enter Tryd.func21, Tryd.ntmps21
  go_wp2
  refine bodyPost_ret (v := .agg #[.int .i64 5, .int .i64 1, .int .i64 0, .int .i64 0, .int .i64 0, .slice (some ⟨sz w.heap.size [1], 0, none⟩) 1 1]) (by simp [results, Tryd.results21, go_sem]) rfl ?_
  exact ⟨_, rfl, lit_rec w [#[.cells _ 35]] _ oneR, more_wd _ _ _⟩
/-- Batches laid just now, alone. -/
theorem lit_bat (w : World) (L : List (Array Obj)) (n : Nat) (x : Btm) (h : RecsAt (wd w L n) x.a x.b.recs) : BatsAt (wd w (#[.cells #[.int .i64 x.b.base, .int .i64 x.b.count, .int .i64 x.b.producer, .int .i64 x.b.epoch, .int .i64 x.b.seq, .slice x.a x.b.recs.length x.cap] 35] :: L) n) (some ⟨sz w.heap.size (shape L), 0, none⟩) [x] := by
  refine ⟨⟨fun _ => ⟨_, 0, rfl, ?_, fun i hi => ?_⟩⟩, fun y hy => ?_⟩
  · rw [wd_size, shape_cons]; simp only [sz]; show _ < _ + 1; omega
  · rw [Nat.zero_add, wd_cell w L n _ i _ _ _ (0, 0) rfl rfl]
    simp [btmCells]
  · simp at hy; subst hy; exact h.more (more_cons (.refl _))
set_option maxRecDepth 100000 in
set_option maxHeartbeats 3200000 in
theorem awake30 (w : World) : Calls Tryd.prog 7 #[] w fun x w' => x = .returned (.bool true) ∧ More w w' := by
  have HT : Hid (∀ b L n S, shape L = S → RecsAt (wd w L n) (some ⟨b, 0, none⟩) [oneR] → Calls Tryd.prog 17 #[.slice (some ⟨sz w.heap.size S, 0, none⟩) 1 1] (wd w (#[.cells #[.int .i64 5, .int .i64 1, .int .i64 0, .int .i64 0, .int .i64 0, .slice (some ⟨b, 0, none⟩) 1 1] 35] :: L) n) fun x w' => x = .returned (.tuple #[.string (str txtA), .int .i64 0]) ∧ More (wd w (#[.cells #[.int .i64 5, .int .i64 1, .int .i64 0, .int .i64 0, .int .i64 0, .slice (some ⟨b, 0, none⟩) 1 1] 35] :: L) n) w') := Lib.hid (fun b L n S hS h => by
    subst hS
    refine (dtext_any _ 1 [⟨oneB, some ⟨b, 0, none⟩, 1⟩] _ (lit_bat w L n ⟨oneB, some ⟨b, 0, none⟩, 1⟩ h) (by intro x hx; simp at hx; subst hx; show 1 ≤ maxLen; decide) (by show 1 ≤ maxLen; decide)).mono ?_
    intro x w' hx
    have := hx.out
    rw [show [(⟨oneB, some ⟨b, 0, none⟩, 1⟩ : Btm)].map Btm.b = [oneB] from rfl, one_text] at this
    exact this)
  have HRA : Hid (∀ W, Calls Tryd.prog 19 #[.string (str txtA)] W fun x w' => ∃ (v : Value), x = .returned (.tuple #[v, .int .i64 0, .int .i64 0]) ∧ (∃ a c, v = .slice a 1 c) ∧ More W w') := Lib.hid (fun W => (read_any txtA W (by decide)).mono (fun x w' h => by
    obtain ⟨a, c, l, hx, hb, _, _, _, hm⟩ := h.out
    rw [one_read] at hx hb
    have hl : l.length = 1 := by have := congrArg List.length hb; simpa using this
    rw [hl] at hx
    exact ⟨_, hx, ⟨a, c, rfl⟩, hm⟩))
  have HRB : Hid (∀ W, Calls Tryd.prog 19 #[.string { data := #[98, 97, 116, 99, 104, 32, 53, 32, 49, 32, 48, 32, 48, 32, 48, 32, 49, 10, 114, 101, 99, 111, 114, 100, 32, 48, 32, 57, 32, 107, 32, 107, 32, 10] }] W fun x w' => ∃ (v : Value), x = .returned (.tuple #[v, .int .i64 2, .int .i64 4]) ∧ More W w') := Lib.hid (fun W => (read_any txtB W (by decide)).mono (fun x w' h => by
    obtain ⟨a, c, l, hx, hb, _, _, _, hm⟩ := h.out
    rw [two_read] at hx
    exact ⟨_, hx, hm⟩))
  have HU : Hid (∀ W, Calls Tryd.prog 8 #[.string { data := #[97, 37, 50, 48, 98, 37, 50, 53] }] W fun x w' => x = .returned (.tuple #[.string { data := #[97, 32, 98, 37] }, .bool true]) ∧ More W w') := Lib.hid (fun W => (unquote_any [97, 37, 50, 48, 98, 37, 50, 53] W (by decide)).mono (fun x w' h => by
    have := h.out
    rw [un_ab] at this
    exact this))
  have HQ : Hid (∀ W, Calls Tryd.prog 10 #[.string { data := #[] }] W fun x w' => x = .returned (.string { data := #[37, 45] }) ∧ More W w') := Lib.hid (fun W => quote_any [] W (by decide))
  have hq1 : ((str txtA).toList == [98, 97, 116, 99, 104, 32, 53, 32, 49, 32, 48, 32, 48, 32, 48, 32, 49, 10, 114, 101, 99, 111, 114, 100, 32, 48, 32, 57, 32, 107, 32, 107, 32, 118, 10]) = true := by rw [str_toList]; decide
  refine calls_wd ?_
  go_enter Tryd.func7, Tryd.ntmps7
  go_wp2_with (first
    | (go_at_call 21; ((with_reducible refine (one_any _).mono ?_); rintro e w1 ho; obtain ⟨ob, rfl, hra, x1, n1, rfl⟩ := ho.out; have HO := Lib.hid hra; clear ho hra))
    | (go_at_call 17; ((with_reducible refine Calls.mono (HT.out _ _ _ _ ?_ ?_) ?_); (exact rfl); (exact HO.out); rintro e w1 ⟨rfl, x2, n2, rfl⟩))
    | (go_at_call 19; ((with_reducible refine (HRA.out _).mono ?_); rintro e w1 ⟨v3, rfl, ⟨a3, c3, rfl⟩, x3, n3, rfl⟩))
    | (go_at_call 19; ((with_reducible refine (HRB.out _).mono ?_); rintro e w1 ⟨v4, rfl, x4, n4, rfl⟩))
    | (go_at_call 8; ((with_reducible refine (HU.out _).mono ?_); rintro e w1 ⟨rfl, x5, n5, rfl⟩))
    | (go_at_call 10; ((with_reducible refine (HQ.out _).mono ?_); rintro e w1 ⟨rfl, x6, n6, rfl⟩)))
  go_ret
  exact ⟨rfl, more_wd _ _ _⟩
end Go.Proofs.YtejokhgabcldhaaDoor
