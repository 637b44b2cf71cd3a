/- console: yes; strings.Cut and CutSuffix at one byte; a record. -/
import Derived.Test.YtifoekadjnlhcaaGreatDoorMI
import Derived.Test.YtifoekadjnlhcaaGreatDoorMJ
namespace Go.Proofs.YtifoekadjnlhcaaGreatDoor
open Go.ChangeShapes Go.WideShapes Go.ChangeAt Go.RowKit
set_option linter.unusedVariables false
set_option linter.unusedSimpArgs false
structure YesRet (w w' : World) (e : Ending) (p : Nat) (v : Value) (ws : List Word) : Prop where
  out : match tkY ws with
    | none => CNo w w' e p
    | some (b, r) => e = .returned (.bool b) ∧ CTk w w' p v ws r
theorem yes_of_num (ws : List Word) : tkY ws = match tkN ws with
    | none => none
    | some (n, r) => if n ≤ 1 then some (decide (n = 1), r) else none := by
  cases ws with
  | nil => rfl
  | cons s r =>
    unfold tkY tkN
    dsimp only
    cases numW s <;> rfl
set_option maxRecDepth 100000 in
set_option maxHeartbeats 800000 in
theorem yes_any (p : Nat) (v : Value) (ws : List Word) (w : World) (hr : CRd w p v) (hv : SRd w v ws) :
    Calls Tryz.prog 51 #[.pointer (some ⟨p, 0, none⟩)] w fun e w' => YesRet w w' e p v ws := by
  have HN := Lib.hid (fun W hm => number_any p v ws W (hr.more (w' := W) hm) (hv.more hm))
  have hlt := hr.lt
  have HY := Lib.hid (yes_of_num ws)
  clear hr hv
  cases hn : tkN ws with
  | none =>
    have HNO := Lib.hid (show tkY ws = none by rw [HY.out, hn])
    have HNN := Lib.hid (fun W hm => (HN.out W hm).mono (R' := fun e w' => CNo W w' e p) fun e w' h => by have := h.out; rw [hn] at this; exact this)
    clear HN HY hn
    refine calls_wd ?_
    go_enter Tryz.func51, Tryz.ntmps51
    go_wp2_with (first | (go_at_call 50; refine (HNN.out _ (more_wd _ _ _)).mono ?_; rintro e w1 hs; obtain ⟨v2, x2, n2, rfl, rfl⟩ := hs.out; clear hs))
    exact ⟨rfl, ⟨by rw [HNO.out]; exact cno_of _ _ _ _⟩⟩
  | some q =>
    obtain ⟨n, r⟩ := q
    have hlt12 : n < 1000000000000 := by
      cases ws with
      | nil => cases hn
      | cons s t =>
        unfold tkN at hn
        dsimp only at hn
        cases hs : numW s with
        | none => rw [hs] at hn; cases hn
        | some m => rw [hs] at hn; cases hn; exact numW_lt hs
    have HNN := Lib.hid (fun W hm => (HN.out W hm).mono (R' := fun e w' => e = .returned (.int .i64 n) ∧ CTk W w' p v ws r) fun e w' h => by have := h.out; rw [hn] at this; exact this)
    by_cases h1 : n ≤ 1
    · have HYY := Lib.hid (show tkY ws = some (decide (n = 1), r) by rw [HY.out, hn]; dsimp only; rw [if_pos h1])
      clear HN HY hn
      have hc : n = 0 ∨ n = 1 := by omega
      rcases hc with rfl | rfl
      · refine calls_wd ?_
        go_enter Tryz.func51, Tryz.ntmps51
        go_wp2_with (first
          | (go_at_call 50; refine (HNN.out _ (more_wd _ _ _)).mono ?_; rintro e w1 ⟨rfl, hk⟩; obtain ⟨v2, x2, n2, hk2, rfl⟩ := hk.out; clear hk; have HK2 := Lib.hid hk2; clear hk2)
          | (go_at_call 26; ((with_reducible refine (need_yesB _ (by first | rfl | exact decide_eq_true (by omega))).mono ?_); rintro e w1 ⟨rfl, x1, n1, rfl⟩)))
        go_ret
        exact ⟨by rw [HYY.out]; exact ⟨rfl, ctk_of _ _ HK2.out⟩⟩
      · refine calls_wd ?_
        go_enter Tryz.func51, Tryz.ntmps51
        go_wp2_with (first
          | (go_at_call 50; refine (HNN.out _ (more_wd _ _ _)).mono ?_; rintro e w1 ⟨rfl, hk⟩; obtain ⟨v2, x2, n2, hk2, rfl⟩ := hk.out; clear hk; have HK2 := Lib.hid hk2; clear hk2)
          | (go_at_call 26; ((with_reducible refine (need_yesB _ (by first | rfl | exact decide_eq_true (by omega))).mono ?_); rintro e w1 ⟨rfl, x1, n1, rfl⟩)))
        go_ret
        exact ⟨by rw [HYY.out]; exact ⟨rfl, ctk_of _ _ HK2.out⟩⟩
    · have HNO := Lib.hid (show tkY ws = none by rw [HY.out, hn]; dsimp only; rw [if_neg h1])
      have hdb : decide ((n : Int) ≤ 1) = false := decide_eq_false (by omega)
      clear HN HY hn
      refine calls_wd ?_
      go_enter Tryz.func51, Tryz.ntmps51
      go_wp2_with (first
        | (go_at_call 50; refine (HNN.out _ (more_wd _ _ _)).mono ?_; rintro e w1 ⟨rfl, hk⟩; obtain ⟨v2, x2, n2, hk2, rfl⟩ := hk.out; clear hk; have HK2 := Lib.hid hk2; clear hk2)
        | (go_at_call 26; ((with_reducible refine (need_noB _ (by first | rfl | exact decide_eq_false (by omega))).mono ?_); rintro e w1 ⟨rfl, x1, n1, rfl⟩)))
      exact ⟨rfl, ⟨by rw [HNO.out]; exact cno_of _ _ _ _⟩⟩
theorem cutC_at (c : UInt8) : ∀ (a b : Word), c ∉ a → cutC c (a ++ c :: b) = some (a, b)
  | [], b, _ => by rw [List.nil_append, cutC, if_pos rfl]
  | x :: a, b, h => by
    rw [List.mem_cons, not_or] at h
    rw [List.cons_append, cutC, if_neg (Ne.symm h.1), cutC_at c a b h.2]
theorem cutC_none (c : UInt8) : ∀ (a : Word), c ∉ a → cutC c a = none
  | [], _ => rfl
  | x :: a, h => by
    rw [List.mem_cons, not_or] at h
    rw [cutC, if_neg (Ne.symm h.1), cutC_none c a h.2]
theorem str_to (l : Word) (K : Nat) (h : K ≤ l.length) (W : World) : (Instr.slice 9 (.string (str l)) none (some (.int .i64 (K : Int))) none).run Tryz.prog W = .ok (.string (str (l.take K))) W := by
  have hs := str_size l
  rw [run_slice_string_h (P := Tryz.prog) W 9 (str l) Tryz.underlying9 .i64 (K : Int) (by omega) (by omega)]
  congr 2
  apply ByteArray.ext
  simp [str, List.extract_eq_take_drop]
theorem str_from (l : Word) (K : Nat) (h : K ≤ l.length) (W : World) : (Instr.slice 9 (.string (str l)) (some (.int .i64 (K : Int))) none none).run Tryz.prog W = .ok (.string (str (l.drop K))) W := by
  have hs := str_size l
  rw [run_slice_string_l (P := Tryz.prog) W 9 (str l) Tryz.underlying9 .i64 (K : Int) (by omega) (by omega)]
  congr 2
  apply ByteArray.ext
  simp [str, List.extract_eq_take_drop]
  exact List.take_of_length_le (by rw [show (ByteArray.mk l.toArray).size = l.length from str_size l, List.length_drop]; exact Nat.le_refl _)
structure CutRet (w w' : World) (e : Ending) (s : Word) (c : UInt8) : Prop where
  out : More w w' ∧ match cutC c s with
    | some (a, b) => e = .returned (.tuple #[.string (str a), .string (str b), .bool true])
    | none => e = .returned (.tuple #[.string (str s), .string { data := #[] }, .bool false])
set_option maxRecDepth 100000 in
theorem slcut_any (s : Word) (c : UInt8) (w : World) (hs : s.length ≤ 1099511627776) : Calls Tryz.prog 261 #[.string (str s), .string (str [c])] w fun e w' => CutRet w w' e s c := by
  have HI : Hid (∀ W, Calls Tryz.prog 111 #[.string (str s), .string (str [c])] W fun e w' => e = .returned (.int .i64 (Lib.indexByte s c)) ∧ W = w') := Lib.hid (fun W => by
    refine (Tryz.stringslite_Index_one (str s) c W).mono ?_
    rintro e w' ⟨rfl, rfl⟩
    rw [str_data]
    exact ⟨rfl, rfl⟩)
  have hsz := str_size s
  have hs1 : (str [c]).size = 1 := str_size [c]
  rcases index_cases s c with ⟨h1, h2⟩ | ⟨i, h1, h2, h3, h4⟩
  · have HC := Lib.hid (cutC_none c s h2)
    rw [h1] at HI
    clear h1 h2
    refine calls_wd ?_
    go_enter Tryz.func261, Tryz.ntmps261
    go_wp2_with (first | (go_at_call 111; ((with_reducible refine (HI.out _).mono ?_); rintro e w1 ⟨rfl, rfl⟩)))
    refine bodyPost_ret (v := .tuple #[.string (str s), .string { data := #[] }, .bool false]) (by simp [results, Tryz.results261, go_sem]) rfl ?_
    exact ⟨more_wd _ _ _, by rw [HC.out]⟩
  · have HC : Hid (cutC c s = some (s.take i, s.drop (i + 1))) := Lib.hid (by conv => lhs; rw [h3]
                                                                              exact cutC_at c _ _ h4)
    rw [h1] at HI
    have ht := str_to s i (by omega)
    have hf := str_from s (i + 1) (by omega)
    rw [Int.natCast_add, Int.natCast_one] at hf
    obtain ⟨A, hA⟩ : ∃ A, s.take i = A := ⟨_, rfl⟩
    obtain ⟨B, hB⟩ : ∃ B, s.drop (i + 1) = B := ⟨_, rfl⟩
    rw [hA] at ht HC
    rw [hB] at hf HC
    clear h1 h3 h4 hA hB
    refine calls_wd ?_
    go_enter Tryz.func261, Tryz.ntmps261
    go_wp2_with (first | (go_at_call 111; ((with_reducible refine (HI.out _).mono ?_); rintro e w1 ⟨rfl, rfl⟩)))
    refine wp_region_wd (by kernel_rfl) (by kernel_rfl) ?_
    repeat (go_big_quiet_step ((fail)))
    refine wpQuiet_nil ?_
    rintro _ ⟨mx, rfl⟩
    go_wp2
    refine bodyPost_ret (v := .tuple #[.string (str A), .string (str B), .bool true]) (by simp [results, Tryz.results261, go_sem]) rfl ?_
    exact ⟨more_wd _ _ _, by rw [HC.out]⟩
theorem cutret_some {w w' : World} {e : Ending} {s a b : Word} {c : UInt8} (h : CutRet w w' e s c) (hc : cutC c s = some (a, b)) : e = .returned (.tuple #[.string (str a), .string (str b), .bool true]) ∧ More w w' := by
  have := h.out; rw [hc] at this; exact ⟨this.2, this.1⟩
theorem cutret_none {w w' : World} {e : Ending} {s : Word} {c : UInt8} (h : CutRet w w' e s c) (hc : cutC c s = none) : e = .returned (.tuple #[.string (str s), .string { data := #[] }, .bool false]) ∧ More w w' := by
  have := h.out; rw [hc] at this; exact ⟨this.2, this.1⟩
set_option maxRecDepth 100000 in
theorem scut_any (s : Word) (c : UInt8) (w : World) (hs : s.length ≤ 1099511627776) : Calls Tryz.prog 175 #[.string (str s), .string (str [c])] w fun e w' => CutRet w w' e s c := by
  have HI := Lib.hid (fun W => slcut_any s c W hs)
  cases hc : cutC c s with
  | none =>
    have HC := Lib.hid hc
    have HJ := Lib.hid (fun W => (HI.out W).mono fun e w' h => cutret_none h hc)
    clear HI hc
    refine calls_wd ?_
    go_enter Tryz.func175, Tryz.ntmps175
    go_wp2_with (first | (go_at_call 261; ((with_reducible refine (HJ.out _).mono ?_); rintro e w1 ⟨rfl, x1, n1, rfl⟩)))
    refine bodyPost_ret (v := .tuple #[.string (str s), .string { data := #[] }, .bool false]) (by simp [results, Tryz.results175, go_sem]) rfl ?_
    exact ⟨more_wd _ _ _, by rw [HC.out]⟩
  | some q =>
    obtain ⟨a, b⟩ := q
    have HC := Lib.hid hc
    have HJ := Lib.hid (fun W => (HI.out W).mono fun e w' h => cutret_some h hc)
    clear HI hc
    refine calls_wd ?_
    go_enter Tryz.func175, Tryz.ntmps175
    go_wp2_with (first | (go_at_call 261; ((with_reducible refine (HJ.out _).mono ?_); rintro e w1 ⟨rfl, x1, n1, rfl⟩)))
    refine bodyPost_ret (v := .tuple #[.string (str a), .string (str b), .bool true]) (by simp [results, Tryz.results175, go_sem]) rfl ?_
    exact ⟨more_wd _ _ _, by rw [HC.out]⟩
theorem csuffix_any (s : Word) (c : UInt8) (w : World) (hs : s.length ≤ 1099511627776) : Calls Tryz.prog 176 #[.string (str s), .string (str [c])] w fun x w' => x = .returned (.tuple #[.string (str (if s.getLast? = some c then s.dropLast else s)), .bool (decide (s.getLast? = some c))]) ∧ w' = w := by
  refine (Tryz.strings_CutSuffix (str s) (str [c]) w (by rw [str_size]; omega)).mono ?_
  rintro x w' ⟨rfl, rfl⟩
  refine ⟨?_, rfl⟩
  rw [str_data, str_data]
  have e : Lib.hasSuffix s [c] = decide (s.getLast? = some c) := by
    unfold Lib.hasSuffix
    rw [Bool.eq_iff_iff, List.isSuffixOf_iff_suffix, decide_eq_true_iff, List.getLast?_eq_some_iff]
    constructor
    · rintro ⟨t, rfl⟩; exact ⟨t, rfl⟩
    · rintro ⟨t, rfl⟩; exact ⟨t, rfl⟩
  unfold Lib.trimSuffix
  rw [e, List.dropLast_eq_take]
  by_cases h : s.getLast? = some c
  · rw [decide_eq_true h, if_pos h]; rfl
  · rw [decide_eq_false h, if_neg h]; rfl
abbrev crec (r : Rec) : Value := .agg #[.int .i64 r.delta, .int .i64 r.time, .bool r.keyed, .string (str r.key), .bool r.dead, .string (str r.value)]
set_option maxRecDepth 100000 in
set_option maxHeartbeats 800000 in
theorem record_any (s : Word) (w : World) (hs : s.length ≤ 1099511627776) : Calls Tryz.prog 106 #[.string (str s)] w fun e w' => e = .returned (crec (recW s)) ∧ More w w' := by
  have HC : Hid (∀ W, Calls Tryz.prog 175 #[.string (str s), .string { data := #[61] }] W fun e w' => CutRet W w' e s 61) := Lib.hid (fun W => scut_any s 61 W hs)
  have HS : Hid (∀ W, Calls Tryz.prog 176 #[.string (str s), .string { data := #[33] }] W fun x w' => x = .returned (.tuple #[.string (str (if s.getLast? = some 33 then s.dropLast else s)), .bool (decide (s.getLast? = some 33))]) ∧ W = w') := Lib.hid (fun W => (csuffix_any s 33 W hs).mono fun e w' h => ⟨h.1, h.2.symm⟩)
  cases hc : cutC 61 s with
  | some q =>
    obtain ⟨a, b⟩ := q
    have HR : Hid (recW s = ⟨0, 0, true, a, false, b⟩) := Lib.hid (by unfold recW; rw [hc])
    have HJ := Lib.hid (fun W => (HC.out W).mono fun e w' h => cutret_some h hc)
    clear HC hc HS
    refine calls_wd ?_
    go_enter Tryz.func106, Tryz.ntmps106
    go_wp2_with (first | (go_at_call 175; ((with_reducible refine (HJ.out _).mono ?_); rintro e w1 ⟨rfl, x1, n1, rfl⟩)))
    refine bodyPost_ret (v := .agg #[.int .i64 0, .int .i64 0, .bool true, .string (str a), .bool false, .string (str b)]) (by simp [results, Tryz.results106, go_sem]) rfl ?_
    exact ⟨by rw [HR.out], more_wd _ _ _⟩
  | none =>
    have HJ := Lib.hid (fun W => (HC.out W).mono fun e w' h => cutret_none h hc)
    by_cases hl : s.getLast? = some 33
    · have HR : Hid (recW s = ⟨0, 0, true, s.dropLast, true, []⟩) := Lib.hid (by unfold recW; rw [hc]; dsimp only; rw [if_pos hl])
      rw [if_pos hl, decide_eq_true hl] at HS
      clear HC hc
      refine calls_wd ?_
      go_enter Tryz.func106, Tryz.ntmps106
      go_wp2_with (first | (go_at_call 175; ((with_reducible refine (HJ.out _).mono ?_); rintro e w1 ⟨rfl, x1, n1, rfl⟩)) | (go_at_call 176; ((with_reducible refine (HS.out _).mono ?_); rintro e w1 ⟨rfl, rfl⟩)))
      refine bodyPost_ret (v := .agg #[.int .i64 0, .int .i64 0, .bool true, .string (str s.dropLast), .bool true, .string { data := #[] }]) (by simp [results, Tryz.results106, go_sem]) rfl ?_
      exact ⟨by rw [HR.out]; rfl, more_wd _ _ _⟩
    · have HR : Hid (recW s = ⟨0, 0, false, [], false, s⟩) := Lib.hid (by unfold recW; rw [hc]; dsimp only; rw [if_neg hl])
      rw [if_neg hl, decide_eq_false hl] at HS
      clear HC hc
      refine calls_wd ?_
      go_enter Tryz.func106, Tryz.ntmps106
      go_wp2_with (first | (go_at_call 175; ((with_reducible refine (HJ.out _).mono ?_); rintro e w1 ⟨rfl, x1, n1, rfl⟩)) | (go_at_call 176; ((with_reducible refine (HS.out _).mono ?_); rintro e w1 ⟨rfl, rfl⟩)))
      refine bodyPost_ret (v := .agg #[.int .i64 0, .int .i64 0, .bool false, .string { data := #[] }, .bool false, .string (str s)]) (by simp [results, Tryz.results106, go_sem]) rfl ?_
      exact ⟨by rw [HR.out]; rfl, more_wd _ _ _⟩
section
variable {w : World} {p : Nat} {v : Value} {ws r r' : List Word} {s : Word} {n : Nat} {b : Bool}
theorem cs_at (h0 : CS w p v ws) {v' : Value} (hk : ∀ W0, SRd W0 v ws → SRd W0 v' r) {W : World} (hm : More (cset w p v') W) : CS W p v' r := (h0.step hk).more hm
theorem t_step (h0 : CS w p v ws) {v' : Value} (hk : ∀ W0, SRd W0 v ws → SRd W0 v' (s :: r)) {W : World} (hm : More (cset w p v') W) :
    Calls Tryz.prog 48 #[.pointer (some ⟨p, 0, none⟩)] W fun e w' => e = .returned (.string (str s)) ∧ ∃ v'' x k, (∀ W0, SRd W0 v ws → SRd W0 v'' r) ∧ w' = plus (cset W p v'') x k := by
  have h := cs_at h0 hk hm
  refine (text_yes p v' s r W h.rd h.words).mono ?_
  rintro e w' ⟨h1, h2⟩
  obtain ⟨v2, x, k, h3, h4⟩ := h2.out
  exact ⟨h1, v2, x, k, fun W0 hw => h3 W0 (hk W0 hw), h4⟩
theorem t_none (h0 : CS w p v ws) {v' : Value} (hk : ∀ W0, SRd W0 v ws → SRd W0 v' []) {W : World} (hm : More (cset w p v') W) : Calls Tryz.prog 48 #[.pointer (some ⟨p, 0, none⟩)] W fun e w' => CNo W w' e p := by
  have h := cs_at h0 hk hm
  exact text_no p v' W h.rd h.words
theorem n_step (h0 : CS w p v ws) (hn : tkN r = some (n, r')) {v' : Value} (hk : ∀ W0, SRd W0 v ws → SRd W0 v' r) {W : World} (hm : More (cset w p v') W) :
    Calls Tryz.prog 50 #[.pointer (some ⟨p, 0, none⟩)] W fun e w' => e = .returned (.int .i64 n) ∧ ∃ v'' x k, (∀ W0, SRd W0 v ws → SRd W0 v'' r') ∧ w' = plus (cset W p v'') x k := by
  have h := cs_at h0 hk hm
  refine (number_any p v' r W h.rd h.words).mono ?_
  intro e w' h1
  have h2 := h1.out
  rw [hn] at h2
  obtain ⟨h3, h4⟩ := h2
  obtain ⟨v2, x, k, h5, h6⟩ := h4.out
  exact ⟨h3, v2, x, k, fun W0 hw => h5 W0 (hk W0 hw), h6⟩
theorem n_none (h0 : CS w p v ws) (hn : tkN r = none) {v' : Value} (hk : ∀ W0, SRd W0 v ws → SRd W0 v' r) {W : World} (hm : More (cset w p v') W) : Calls Tryz.prog 50 #[.pointer (some ⟨p, 0, none⟩)] W fun e w' => CNo W w' e p := by
  have h := cs_at h0 hk hm
  refine (number_any p v' r W h.rd h.words).mono ?_
  intro e w' h1
  have h2 := h1.out
  rw [hn] at h2
  exact h2
theorem y_step (h0 : CS w p v ws) (hn : tkY r = some (b, r')) {v' : Value} (hk : ∀ W0, SRd W0 v ws → SRd W0 v' r) {W : World} (hm : More (cset w p v') W) :
    Calls Tryz.prog 51 #[.pointer (some ⟨p, 0, none⟩)] W fun e w' => e = .returned (.bool b) ∧ ∃ v'' x k, (∀ W0, SRd W0 v ws → SRd W0 v'' r') ∧ w' = plus (cset W p v'') x k := by
  have h := cs_at h0 hk hm
  refine (yes_any p v' r W h.rd h.words).mono ?_
  intro e w' h1
  have h2 := h1.out
  rw [hn] at h2
  obtain ⟨h3, h4⟩ := h2
  obtain ⟨v2, x, k, h5, h6⟩ := h4.out
  exact ⟨h3, v2, x, k, fun W0 hw => h5 W0 (hk W0 hw), h6⟩
theorem y_none (h0 : CS w p v ws) (hn : tkY r = none) {v' : Value} (hk : ∀ W0, SRd W0 v ws → SRd W0 v' r) {W : World} (hm : More (cset w p v') W) : Calls Tryz.prog 51 #[.pointer (some ⟨p, 0, none⟩)] W fun e w' => CNo W w' e p := by
  have h := cs_at h0 hk hm
  refine (yes_any p v' r W h.rd h.words).mono ?_
  intro e w' h1
  have h2 := h1.out
  rw [hn] at h2
  exact h2
theorem first_more (h0 : CS w p v ws) {W : World} (hm : More w W) : More (cset w p v) W := by rw [cset_self h0.rd]; exact hm
end
@[go_sem] theorem rqk_0 (q : Req) (a : Option Addr) (cap : Nat) : (rq q a cap).setIfInBounds 0 (.int .u8 0) = rq { q with kind := 0 } a cap := rq_set0 q a cap 0
@[go_sem] theorem rqk_1 (q : Req) (a : Option Addr) (cap : Nat) : (rq q a cap).setIfInBounds 0 (.int .u8 1) = rq { q with kind := 1 } a cap := rq_set0 q a cap 1
@[go_sem] theorem rqk_2 (q : Req) (a : Option Addr) (cap : Nat) : (rq q a cap).setIfInBounds 0 (.int .u8 2) = rq { q with kind := 2 } a cap := rq_set0 q a cap 2
@[go_sem] theorem rqk_3 (q : Req) (a : Option Addr) (cap : Nat) : (rq q a cap).setIfInBounds 0 (.int .u8 3) = rq { q with kind := 3 } a cap := rq_set0 q a cap 3
@[go_sem] theorem rqk_4 (q : Req) (a : Option Addr) (cap : Nat) : (rq q a cap).setIfInBounds 0 (.int .u8 4) = rq { q with kind := 4 } a cap := rq_set0 q a cap 4
@[go_sem] theorem rqk_5 (q : Req) (a : Option Addr) (cap : Nat) : (rq q a cap).setIfInBounds 0 (.int .u8 5) = rq { q with kind := 5 } a cap := rq_set0 q a cap 5
@[go_sem] theorem rqk_6 (q : Req) (a : Option Addr) (cap : Nat) : (rq q a cap).setIfInBounds 0 (.int .u8 6) = rq { q with kind := 6 } a cap := rq_set0 q a cap 6
@[go_sem] theorem rqk_7 (q : Req) (a : Option Addr) (cap : Nat) : (rq q a cap).setIfInBounds 0 (.int .u8 7) = rq { q with kind := 7 } a cap := rq_set0 q a cap 7
@[go_sem] theorem rqk_8 (q : Req) (a : Option Addr) (cap : Nat) : (rq q a cap).setIfInBounds 0 (.int .u8 8) = rq { q with kind := 8 } a cap := rq_set0 q a cap 8
@[go_sem] theorem rqk_9 (q : Req) (a : Option Addr) (cap : Nat) : (rq q a cap).setIfInBounds 0 (.int .u8 9) = rq { q with kind := 9 } a cap := rq_set0 q a cap 9
@[go_sem] theorem rqk_10 (q : Req) (a : Option Addr) (cap : Nat) : (rq q a cap).setIfInBounds 0 (.int .u8 10) = rq { q with kind := 10 } a cap := rq_set0 q a cap 10
@[go_sem] theorem rqk_11 (q : Req) (a : Option Addr) (cap : Nat) : (rq q a cap).setIfInBounds 0 (.int .u8 11) = rq { q with kind := 11 } a cap := rq_set0 q a cap 11
structure ReqRet (w w' : World) (e : Ending) (p : Nat) (v : Value) (t : Word) (ws : List Word) : Prop where
  out : match requestW t ws with
    | none => CNo w w' e p
    | some (some q, r) => e = .returned (.tuple #[.agg (rq q none 0), .bool true]) ∧ CTk w w' p v ws r
    | some (none, r) => e = .returned (.tuple #[.agg (rq (reqBlank 0) none 0), .bool false]) ∧ CTk w w' p v ws r
theorem requestW_sh {t : Word} {k : Nat} {sh : List TK} (h : reqSh t = some (k, sh)) (ws : List Word) : requestW t ws = match tkAll sh ws with
    | none => none
    | some (vs, r) => some (some (reqOf k vs), r) := by
  unfold requestW; rw [h]; rfl
section
variable {w w' : World} {e : Ending} {p : Nat} {v : Value} {t : Word} {ws r : List Word} {k : Nat} {sh : List TK} {vs : List TV}
theorem reqret_no (h : reqSh t = some (k, sh)) (hn : tkAll sh ws = none) (hc : CNo w w' e p) : ReqRet w w' e p v t ws := ⟨by rw [requestW_sh h, hn]; exact hc⟩
theorem reqret_yes (h : reqSh t = some (k, sh)) (hn : tkAll sh ws = some (vs, r)) (hb : (reqOf k vs).batch.recs = []) (he : e = .returned (.tuple #[.agg (rq (reqOf k vs) none 0), .bool true])) (hc : CTk w w' p v ws r) : ReqRet w w' e p v t ws :=
  ⟨by rw [requestW_sh h, hn]; exact ⟨he, hc⟩⟩
end
end Go.Proofs.YtifoekadjnlhcaaGreatDoor
