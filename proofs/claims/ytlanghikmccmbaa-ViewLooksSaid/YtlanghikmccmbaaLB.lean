/- law 36, ViewLooks: strings.HasPrefix; the document's Scan. -/
import Derived.Test.YtlanghikmccmbaaLA
import Derived.Test.YtlanghikmccmbaaMF
import Derived.Lib.Strings
namespace Go.Proofs.Ytlanghikmccmbaa
open Go.ChangeShapes Go.WideShapes Go.ChangeAt Go.RowKit
set_option linter.unusedVariables false
set_option linter.unusedSimpArgs false
def hasP (p : List UInt8) (x : VRow) : Bool := Lib.hasPrefix x.key p
set_option maxRecDepth 100000 in
theorem slhp_any (s p : ByteArray) (w : World) : Calls Try.prog 66 #[.string s, .string p] w fun e w' => e = .returned (.bool (Lib.hasPrefix s.data.toList p.data.toList)) ∧ w = w' := by
  rw [← Lib.hasPrefix_of_take, ← Lib.size_eq, ← Lib.size_eq]
  go_enter Try.func66, Try.ntmps66
  go_wp2
  · rename_i h
    go_ret
    refine ⟨?_, rfl⟩
    show Ending.returned (Value.bool ((s.extract 0 p.size).toList == p.toList)) = _
    rw [Lib.extract_toList, Lib.toList_data]
    simp [h]
  · rename_i h
    go_ret
    refine ⟨?_, rfl⟩
    show Ending.returned (Value.bool false) = _
    simp [h]
set_option maxRecDepth 100000 in
theorem shp_any (s p : ByteArray) (w : World) : Calls Try.prog 35 #[.string s, .string p] w fun e w' => e = .returned (.bool (Lib.hasPrefix s.data.toList p.data.toList)) ∧ w = w' := by
  have HC := Lib.hid (slhp_any s p w)
  go_enter Try.func35, Try.ntmps35
  go_wp2_with ((go_at_call 66; ((with_reducible refine (HC.out).mono ?_); rintro e w1 ⟨rfl, rfl⟩)))
  go_ret
  exact ⟨rfl, rfl⟩
theorem filter_snoc (f : VRow → Bool) (l : List VRow) (k : Nat) (x : VRow) (hx : l[k]? = some x) : (l.take (k + 1)).filter f = (l.take k).filter f ++ (if f x then [x] else []) := by
  rw [List.take_add_one, hx, Option.toList_some, List.filter_append]
  by_cases h : f x = true <;> simp [h]
theorem filter_stop (f : VRow → Bool) (l : List VRow) (k n : Nat) (h : ((l.take k).filter f).length = n) : (l.filter f).take n = (l.take k).filter f := by
  conv => lhs; rw [← List.take_append_drop k l]
  rw [List.filter_append, List.take_append_of_le_length (by omega), List.take_of_length_le (by omega)]
def scanR (p : List UInt8) (most : Int) (l : List VRow) : List VRow := (l.filter (hasP p)).take most.toNat
set_option maxRecDepth 100000 in
set_option maxHeartbeats 3200000 in
theorem rscan_any (v : Vw) (p : List UInt8) (most : Int) (a : Option Addr) (cap : Nat) (w : World) (hr : VRowsAt w a v.rows) (hl : v.rows.length ≤ 1000000) (hp : p.length ≤ maxLen) (hf : ∀ x ∈ v.rows, x.key.length ≤ maxLen) :
    Calls Try.prog 16 #[.agg #[.int .i64 v.next, .slice a v.rows.length cap], .string (str p), .int .i64 most] w fun x w' => VRowsRet w w' x (scanR p most v.rows) := by
  obtain ⟨i0, hi, hz0, hz1, hz2⟩ := info_parts info_rrow2
  have HA := Lib.hid hr
  have HK := Lib.hid hf
  obtain ⟨nx, l⟩ := v
  dsimp only at HA HK hl ⊢
  unfold maxLen at hp
  have s2 := str_size p
  clear hr hf
  refine calls_wd ?_
  go_enter Try.func16, Try.ntmps16
  go_wp2
  go_loopw [7, 8] (fun v i wr => ∃ (k : Nat) (F : List VRow) (N : Nat) (m : Ext) (a' : Option Addr) (c' : Nat), k ≤ l.length ∧ N ≤ k ∧ i = .int .i64 k ∧ v = .slice a' N c' ∧ rowIn w.heap.size [1] m.e 26 4 (.slice a' N c') N (F.flatMap vrCells) ∧ Hid (F = (l.take k).filter (hasP p) ∧ F.length = N ∧ N ≤ most.toNat) ∧ wr = wd w [m.e, #[.cells #[.int .i64 nx, .slice a l.length cap] 24]] m.n) (fun _ i _ => l.length - (intOf i).toNat)
  case atStart => exact ⟨0, [], 0, ⟨#[], w.drawn⟩, none, 0, Nat.zero_le _, Nat.le_refl _, rfl, rfl, rowIn_nil _ _ _ _ _, Lib.hid ⟨by simp, rfl, Nat.zero_le _⟩, (wd_empty _ _ _).symm⟩
  case round =>
    obtain ⟨k, F, N, m, a', c', hkl, hN, rfl, rfl, hrow, HF, rfl⟩ := hrel
    have HROW := Lib.hid hrow
    clear hrow
    by_cases hlt : k < l.length
    · by_cases hmo : (N : Int) < most
      · obtain ⟨x, hx⟩ : ∃ x, l[k]? = some x := ⟨_, List.getElem?_eq_getElem hlt⟩
        obtain ⟨bb, off, rfl, hb, c0, c1, c2, c3⟩ := vrows_at HA.out k x hx
        have hkx := HK.out x (List.mem_of_getElem? hx)
        unfold maxLen at hkx
        have HS := Lib.hid (filter_snoc (hasP p) l k x hx)
        have s1 := str_size x.key
        have hpe : hasP p x = (decide (p.length ≤ x.key.length) && (x.key.take p.length == p)) := (Lib.hasPrefix_of_take _ _).symm
        have hex : ((str x.key).extract 0 p.length).toList = x.key.take p.length := by rw [Lib.extract_toList]; simp [str]
        have HFM : Hid (F.flatMap vrCells ++ [.string (str x.key), .string (str x.value), .int .i64 x.offset, .int .i64 x.time] = (F ++ [x]).flatMap vrCells) := Lib.hid (by simp [vrCells])
        by_cases h1 : p.length ≤ x.key.length
        · have h1z : (p.length : Int) ≤ (x.key.length : Int) := by omega
          by_cases h2 : x.key.take p.length = p
          · have hq : (((str x.key).extract 0 p.length).toList == (str p).toList) = true := by rw [hex, str_toList, h2]; simp
            have HF2 : Hid (F ++ [x] = (l.take (k + 1)).filter (hasP p)) := Lib.hid (by rw [HS.out, hpe, h2]; simp [h1, HF.out.1])
            obtain ⟨xk, xv, xo, xt⟩ := x
            dsimp only at c0 c1 c2 c3 hkx s1 h1 h1z hq HFM
            clear hx hpe hex h2 HS
            go_wp2_with (first
              | (at_builtin; refine wp_append_row (L := [#[.cells #[.int .i64 nx, .slice (some ⟨bb, off, none⟩) l.length cap] 24]]) rfl _ _ _ rfl 26 i0 _ 4 48 Try.underlying22 hi hz0 hz1 hz2 rfl (by decide) (.slice a' N c') N _ rfl HROW.out _ _ 1 1 rfl rfl (by simp [Value.oneCell']) (by unfold maxLen; omega) (by omega) ?_; intro v9 m9 hr9; obtain ⟨a9, c9, rfl⟩ := rowIn_slice hr9))
            go_roundw
            case rel => exact ⟨k + 1, F ++ [⟨xk, xv, xo, xt⟩], N + 1, ⟨m9.e, m9.n⟩, a9, c9, by omega, by omega, by go_num, rfl, by rw [← HFM.out]; exact hr9, Lib.hid ⟨HF2.out, by rw [List.length_append, HF.out.2.1]; rfl, by omega⟩, rfl⟩
            case measure => simp [intOf]; omega
          · have hq : (((str x.key).extract 0 p.length).toList == (str p).toList) = false := by rw [hex, str_toList]; simpa using h2
            have HF2 : Hid (F = (l.take (k + 1)).filter (hasP p)) := Lib.hid (by rw [HS.out, hpe, HF.out.1]; simp [h2])
            obtain ⟨xk, xv, xo, xt⟩ := x
            dsimp only at c0 c1 c2 c3 hkx s1 h1 h1z hq
            clear hx hpe hex h2 HS
            go_wp2
            go_roundw
            case rel => exact ⟨k + 1, F, N, ⟨m.e, _⟩, a', c', by omega, by omega, by go_num, rfl, HROW.out, Lib.hid ⟨HF2.out, HF.out.2.1, HF.out.2.2⟩, rfl⟩
            case measure => simp [intOf]; omega
        · have h1z : ¬ (p.length : Int) ≤ (x.key.length : Int) := by omega
          have HF2 : Hid (F = (l.take (k + 1)).filter (hasP p)) := Lib.hid (by rw [HS.out, hpe, HF.out.1]; simp [h1])
          obtain ⟨xk, xv, xo, xt⟩ := x
          dsimp only at c0 c1 c2 c3 hkx s1 h1 h1z
          clear hx hpe hex HS
          go_wp2
          go_roundw
          case rel => exact ⟨k + 1, F, N, ⟨m.e, _⟩, a', c', by omega, by omega, by go_num, rfl, HROW.out, Lib.hid ⟨HF2.out, HF.out.2.1, HF.out.2.2⟩, rfl⟩
          case measure => simp [intOf]; omega
      · have HE : Hid (F = scanR p most l) := Lib.hid (by
          obtain ⟨h1, h2, h3⟩ := HF.out
          unfold scanR
          rw [filter_stop (hasP p) l k most.toNat (by rw [← h1]; omega), h1])
        go_wp2
        go_ret
        obtain ⟨h1, h2, h3⟩ := HF.out
        refine ⟨a', c', ?_, ?_, more_wd _ _ _, ?_⟩
        · rw [← HE.out, h2]; rfl
        · rw [← HE.out]; exact vrows_of_row (L := [_]) h2 HROW.out m.n
        · rw [← HE.out]; exact from_row HROW.out h2
    · have HE : Hid (F = scanR p most l) := Lib.hid (by
        obtain ⟨h1, h2, h3⟩ := HF.out
        unfold scanR
        rw [List.take_of_length_le (show k ≥ l.length by omega)] at h1
        rw [← h1, List.take_of_length_le (by omega)])
      go_wp2
      go_ret
      obtain ⟨h1, h2, h3⟩ := HF.out
      refine ⟨a', c', ?_, ?_, more_wd _ _ _, ?_⟩
      · rw [← HE.out, h2]; rfl
      · rw [← HE.out]; exact vrows_of_row (L := [_]) h2 HROW.out m.n
      · rw [← HE.out]; exact from_row HROW.out h2
end Go.Proofs.Ytlanghikmccmbaa
/- law 36, ViewLooks: the program's Scan. -/
namespace Go.Proofs.Ytlanghikmccmbaa
open Go.ChangeShapes Go.WideShapes Go.ChangeAt Go.RowKit
set_option linter.unusedVariables false
set_option linter.unusedSimpArgs false
set_option maxRecDepth 100000 in
theorem vslice_from (a : Option Addr) (l : List VRow) (cap i : Nat) (hi : i ≤ l.length) (hc : l.length ≤ cap) (hb : cap ≤ 9223372036854775807) : ∃ a' c', (∀ W, (Instr.slice 30 (.slice a l.length cap) (some (.int .i64 (i : Int))) none none).run Try.prog W = .ok (.slice a' (l.length - i) c') W) ∧ ∀ w, VRowsAt w a l → VRowsAt w a' (l.drop i) := by
  have ht' : Try.prog.underlying 30 = some (.slice (Try.prog.elem 30)) := by simp [Program.elem, Try.underlying30]
  have he : Try.prog.elem 30 = 34 := by simp [Program.elem, Try.underlying30]
  refine ⟨if cap = i then a else a.map (·.add (i * 4)), cap - i, fun W => ?_, fun w h => ?_⟩
  · rw [run_slice_l W 30 _ l.length cap ht' .i64 _ (by omega) (by omega), he, sz_vrow]
    rfl
  · refine ⟨fun hne => ?_⟩
    have hlt : i < l.length := by
      rcases Nat.lt_or_ge i l.length with h | h
      · exact h
      · exact absurd (List.drop_eq_nil_of_le h) hne
    obtain ⟨b, off, rfl, hb', hc'⟩ := h.out (by intro h; subst h; simp at hlt)
    have hne : ¬ cap = i := by omega
    refine ⟨b, off + i * 4, by rw [if_neg hne]; simp [Addr.add], hb', fun j hj => ?_⟩
    rw [Nat.add_assoc, hc' (i * 4 + j) (by
      rw [List.length_drop] at hj
      omega)]
    have e1 : l.flatMap vrCells = (l.take i).flatMap vrCells ++ (l.drop i).flatMap vrCells := by rw [← List.flatMap_append, List.take_append_drop]
    have e2 : ((l.take i).flatMap vrCells).length = i * 4 := by rw [flat_len vrCells 4 vrCells_len, List.length_take]; congr 1; omega
    rw [e1, List.getElem?_append_right (by omega), e2, Nat.add_sub_cancel_left]
def scanP (p : List UInt8) (most : Int) (D : List VRow) : List VRow := (D.takeWhile (hasP p)).take most.toNat
theorem tw_take {P : VRow → Bool} : ∀ (D : List VRow) (k : Nat), (∀ y ∈ D.take k, P y = true) → D.takeWhile P = D.take k ++ (D.drop k).takeWhile P
  | D, 0, _ => by simp
  | [], k + 1, _ => by simp
  | y :: D, k + 1, h => by
    rw [List.take_succ_cons] at h ⊢
    rw [List.takeWhile_cons_of_pos (h y (by simp)), tw_take D k (fun z hz => h z (by simp [hz])), List.drop_succ_cons, List.cons_append]
theorem scanP_at {p : List UInt8} {most : Int} {D : List VRow} {k : Nat} (h : ∀ y ∈ D.take k, hasP p y = true) (hk : k ≤ most.toNat) (hl : k ≤ D.length) (he : k = D.length ∨ most ≤ k ∨ ∃ x, D[k]? = some x ∧ hasP p x = false) : scanP p most D = D.take k := by
  have hlen : (D.take k).length = k := by rw [List.length_take]; omega
  unfold scanP
  rw [tw_take D k h]
  rcases he with rfl | he | ⟨x, hx, hp⟩
  · rw [List.drop_length, List.takeWhile_nil, List.append_nil, List.take_of_length_le (by omega)]
  · rw [List.take_append_of_le_length (by omega), List.take_of_length_le (by omega)]
  · have hkl := (List.getElem?_eq_some_iff.1 hx).1
    rw [List.drop_eq_getElem_cons hkl, (List.getElem?_eq_some_iff.1 hx).2, List.takeWhile_cons_of_neg (by simp [hp]), List.append_nil, List.take_of_length_le (by omega)]
structure ScanRet (w w' : World) (e : Ending) (p : List UInt8) (most : Int) (l : List VRow) : Prop where
  out : ∃ i b, Plc l p i b ∧ VRowsRet w w' e (scanP p most (l.drop i))
set_option maxRecDepth 100000 in
set_option maxHeartbeats 3200000 in
theorem pscan_any (v : Vw) (p : List UInt8) (most : Int) (a : Option Addr) (cap : Nat) (w : World) (hr : VRowsAt w a v.rows) (hl : v.rows.length ≤ 1000000) (hlc : v.rows.length ≤ cap) (hcm : cap ≤ 9223372036854775807) (hp : p.length ≤ maxLen) (hf : ∀ x ∈ v.rows, x.key.length ≤ maxLen) :
    Calls Try.prog 15 #[.agg #[.int .i64 v.next, .slice a v.rows.length cap], .string (str p), .int .i64 most] w fun x w' => ScanRet w w' x p most v.rows := by
  obtain ⟨i0, hi, hz0, hz1, hz2⟩ := info_parts info_vrow
  have HB := Lib.hid (fun W hm => place_any v p a cap W (hr.more (w' := W) hm) hl)
  have HA := Lib.hid hr
  have HK := Lib.hid hf
  obtain ⟨nx, l⟩ := v
  dsimp only at HA HB HK hl hlc ⊢
  have HSL := Lib.hid (fun i h => vslice_from a l cap i h hlc hcm)
  have HPC : Hid (∀ s W, Calls Try.prog 35 #[.string (str s), .string (str p)] W fun e w' => e = .returned (.bool (Lib.hasPrefix s p)) ∧ W = w') := Lib.hid (fun s W => shp_any (str s) (str p) W)
  clear hr hf hp
  refine calls_wd ?_
  go_enter Try.func15, Try.ntmps15
  go_wp2_with (first | (go_at_call 34; ((with_reducible refine (HB.out _ (more_wd _ _ _)).mono ?_); rintro e w2 hq; obtain ⟨i, b, rfl, ⟨x1, n1, rfl⟩, hpl⟩ := hq.out; have HP := Lib.hid hpl; have hil := hpl.le; obtain ⟨a2, c2, hs2, hr2⟩ := HSL.out i hil; have HR2 := Lib.hid (hr2 _ HA.out); clear hpl hq hr2)))
  obtain ⟨D, hD⟩ : ∃ D, l.drop i = D := ⟨_, rfl⟩
  have HD := Lib.hid hD
  obtain ⟨M, hM⟩ : ∃ M, l.length - i = M := ⟨_, rfl⟩
  have hDl : D.length = M := by rw [← hD, List.length_drop, hM]
  have hML : M ≤ 1000000 := by omega
  have HDL := Lib.hid hDl
  have HKD : Hid (∀ x ∈ D, x.key.length ≤ maxLen) := Lib.hid (fun x hx => HK.out x (by rw [← hD] at hx; exact List.mem_of_mem_drop hx))
  rw [hD] at HR2
  rw [hM]
  obtain ⟨w0, hw0⟩ : ∃ w0, wd w [x1, #[.cells #[.int .i64 nx, .slice a l.length cap] 32]] n1 = w0 := ⟨_, rfl⟩
  have HM0 : Hid (More w w0) := Lib.hid (hw0 ▸ more_wd _ _ _)
  have HR0 : Hid (VRowsAt w0 a2 D) := Lib.hid (HR2.out.more HM0.out)
  rw [hw0, ← wd_nil w0]
  clear hD hDl hM hw0 HR2 hs2 HSL HB HK HA
  go_loopw [9, 23] (fun v i wr => ∃ (k : Nat) (m : Ext) (a' : Option Addr) (c' : Nat), k ≤ M ∧ i = .int .i64 k ∧ v = .slice a' k c' ∧ rowIn w0.heap.size [] m.e 34 4 (.slice a' k c') k ((D.take k).flatMap vrCells) ∧ Hid ((∀ y ∈ D.take k, hasP p y = true) ∧ k ≤ most.toNat) ∧ wr = wd w0 [m.e] m.n) (fun _ i _ => M - (intOf i).toNat)
  case atStart => exact ⟨0, ⟨#[], w0.drawn⟩, none, 0, Nat.zero_le _, rfl, rfl, rowIn_nil _ _ _ _ _, Lib.hid ⟨by simp, Nat.zero_le _⟩, (wd_empty _ _ _).symm⟩
  case round =>
    obtain ⟨k, m, a', c', hkM, rfl, rfl, hrow, HF, rfl⟩ := hrel
    have HROW := Lib.hid hrow
    clear hrow
    have fin : (k = M ∨ most ≤ k ∨ ∃ x, D[k]? = some x ∧ hasP p x = false) → ∀ (e : Array Obj) (n' : Nat), ScanRet w (wd w0 [e, m.e] n') (.returned (.slice a' k c')) p most l := fun h e n' => by
      have hS := scanP_at HF.out.1 HF.out.2 (by rw [HDL.out]; exact hkM) (by rw [HDL.out]; exact h)
      have hlen : (D.take k).length = k := by rw [List.length_take, HDL.out]; omega
      refine ⟨i, b, HP.out, a', c', ?_, ?_, HM0.out.trans (more_wd _ _ _), ?_⟩
      · rw [HD.out, hS, hlen]
      · rw [HD.out, hS, wd_merge]; exact vrows_of_row (L := []) hlen (rowIn_more HROW.out e) n'
      · rw [HD.out, hS]
        have h1 := HM0.out.below.size
        exact (from_row HROW.out hlen).le h1
    have FIN := Lib.hid fin
    clear fin
    by_cases hlt : k < M
    · obtain ⟨x, hx⟩ : ∃ x, D[k]? = some x := ⟨_, List.getElem?_eq_getElem (by rw [HDL.out]; exact hlt)⟩
      obtain ⟨bb, off, rfl, hb, c0, c1, c2', c3⟩ := vrows_at HR0.out k x hx
      have HS := Lib.hid (vflat_snoc D k x hx)
      have HX := Lib.hid hx
      have HPX := Lib.hid (fun W => HPC.out x.key W)
      obtain ⟨q, hq⟩ : ∃ q, hasP p x = q := ⟨_, rfl⟩
      have hq' : Lib.hasPrefix x.key p = q := hq
      rw [hq'] at HPX
      have HQ := Lib.hid hq
      obtain ⟨xk, xv, xo, xt⟩ := x
      dsimp only at c0 c1 c2' c3 HPX
      clear hx hq hq'
      by_cases hmo : most ≤ (k : Int)
      · go_wp2
        go_ret
        exact FIN.out (.inr (.inl hmo)) _ _
      · cases q with
        | false =>
          go_wp2_with ((go_at_call 35; ((with_reducible refine (HPX.out _).mono ?_); rintro e w1 ⟨rfl, rfl⟩)))
          go_ret
          exact FIN.out (.inr (.inr ⟨_, HX.out, HQ.out⟩)) _ _
        | true =>
          go_wp2_with (first
            | (go_at_call 35; ((with_reducible refine (HPX.out _).mono ?_); rintro e w1 ⟨rfl, rfl⟩))
            | (at_builtin; refine wp_append_rowD [#[.cells _ _]] rfl _ _ _ rfl 34 i0 _ 4 48 Try.underlying30 hi hz0 hz1 hz2 rfl (by decide) (L := []) (.slice a' k c') k _ rfl HROW.out _ _ 1 1 rfl rfl (by simp [Value.oneCell']) (by unfold maxLen; omega) (by omega) ?_; intro v9 m9 hr9; obtain ⟨a9, c9, rfl⟩ := rowIn_slice hr9))
          go_roundw
          case rel => exact ⟨k + 1, ⟨m9.e, m9.n⟩, a9, c9, by omega, by go_num, rfl, by rw [HS.out]; exact hr9, Lib.hid ⟨take_ok' HF.out.1 HX.out HQ.out, by have := HF.out.2; omega⟩, rfl⟩
          case measure => simp [intOf]; omega
    · obtain rfl : k = M := by omega
      go_wp2
      go_ret
      have h := FIN.out (.inl (by first | rfl | trivial)) #[] m.n
      rw [wd_merge, Array.append_empty] at h
      exact h
end Go.Proofs.Ytlanghikmccmbaa
