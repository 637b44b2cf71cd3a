/- law 36, ViewLooks: whether two views of the program's are one; the document's Get; the program's Since. -/
import Derived.Test.YtlanghikmccmbaaVL
import Derived.Test.YtlanghikmccmbaaVT
import Derived.Test.YtlanghikmccmbaaSD
namespace Go.Proofs.Ytlanghikmccmbaa
open Go.ChangeShapes Go.WideShapes Go.ChangeAt Go.RowKit
set_option linter.unusedVariables false
set_option linter.unusedSimpArgs false
theorem prow_neq (k v : List UInt8) (o t : Int) (k' v' : List UInt8) (o' t' : Int) (W : World) :
    (binOp .neq 34 (.agg #[.string (str k), .string (str v), .int .i64 o, .int .i64 t]) (.agg #[.string (str k'), .string (str v'), .int .i64 o', .int .i64 t'])).run Try.prog W = .ok (.bool (!decide ((⟨k, v, o, t⟩ : VRow) = ⟨k', v', o', t'⟩))) W := by
  rw [run_neq_struct]
  go_simp
  simp only [str_toList]
  (repeat' split) <;> simp_all
/-- A row and whether there is one. -/
def getR (l : List VRow) (key : List UInt8) : VRow × Bool := match l.find? (fun x => decide (x.key = key)) with
  | some x => (x, true)
  | none => (VRow.zero, false)
theorem getR_hit {l : List VRow} {key : List UInt8} {k : Nat} {x : VRow} (hx : l[k]? = some x) (hk : x.key = key) (hn : ∀ (j : Nat) y, j < k → l[j]? = some y → y.key ≠ key) : getR l key = (x, true) := by
  have : l.find? (fun x => decide (x.key = key)) = some x := by
    rw [List.find?_eq_some_iff_append]
    refine ⟨by simpa using hk, l.take k, l.drop (k + 1), ?_, fun y hy => ?_⟩
    · conv => lhs; rw [← List.take_append_drop k l]
      congr 1
      rw [List.drop_eq_getElem_cons (List.getElem?_eq_some_iff.1 hx).1, (List.getElem?_eq_some_iff.1 hx).2]
    · obtain ⟨j, hj⟩ := List.getElem?_of_mem hy
      rw [List.getElem?_take] at hj
      split at hj
      · simpa using hn j y (by assumption) hj
      · cases hj
  unfold getR; rw [this]
theorem getR_miss {l : List VRow} {key : List UInt8} (hn : ∀ (j : Nat) y, l[j]? = some y → y.key ≠ key) : getR l key = (VRow.zero, false) := by
  have : l.find? (fun x => decide (x.key = key)) = none := by
    rw [List.find?_eq_none]
    intro y hy
    obtain ⟨j, hj⟩ := List.getElem?_of_mem hy
    simpa using hn j y hj
  unfold getR; rw [this]
abbrev rowA (x : VRow) : Value := .agg #[.string (str x.key), .string (str x.value), .int .i64 x.offset, .int .i64 x.time]
end Go.Proofs.Ytlanghikmccmbaa
/- law 36, ViewLooks: slices.BinarySearchFunc at rows by byKey; place; the program's Get. -/
namespace Go.Proofs.Ytlanghikmccmbaa
open Go.ChangeShapes Go.WideShapes Go.ChangeAt Go.RowKit
set_option linter.unusedVariables false
set_option linter.unusedSimpArgs false
set_option maxRecDepth 100000 in
theorem bykey_more (x y : VRow) (w : World) : Calls Try.prog 59 #[rowV x, rowV y] w fun e w' => e = .returned (.int .i64 (cmpK x y)) ∧ More w w' := by
  have HC := fun W => scmp_any (str x.key) (str y.key) W
  have hcd : Lib.compareBytes (str x.key).data.toList (str y.key).data.toList = cmpK x y := rfl
  rw [hcd] at HC
  obtain ⟨r, hr⟩ : ∃ r, cmpK x y = r := ⟨_, rfl⟩
  rw [hr] at HC ⊢
  clear hcd hr
  have HC := Lib.hid HC
  obtain ⟨xk, xv, xo, xt⟩ := x
  obtain ⟨yk, yv, yo, yt⟩ := y
  dsimp only at HC ⊢
  refine calls_wd ?_
  go_enter Try.func59, Try.ntmps59
  go_wp2_with ((go_at_call 86; ((with_reducible refine (HC.out _).mono ?_); rintro e w1 ⟨rfl, rfl⟩)))
  go_ret
  exact ⟨rfl, more_wd _ _ _⟩
theorem cmpB_zero : ∀ a b : List UInt8, Lib.compareBytes a b = 0 ↔ a = b
  | [], [] => by simp [Lib.compareBytes]
  | [], b :: bs => by simp [Lib.compareBytes]
  | a :: u, [] => by simp [Lib.compareBytes]
  | a :: u, b :: v => by
    rw [Lib.compareBytes]
    split
    · next h => simp only [List.cons.injEq]; constructor
                · intro h2; exact absurd h2 (by decide)
                · rintro ⟨rfl, _⟩; exact absurd h (UInt8.lt_irrefl _)
    · next h =>
      split
      · next h1 => simp only [List.cons.injEq]; constructor
                   · intro h2; exact absurd h2 (by decide)
                   · rintro ⟨rfl, _⟩; exact absurd h1 (UInt8.lt_irrefl _)
      · next h1 =>
        rw [cmpB_zero u v]
        have : a = b := UInt8.le_antisymm (UInt8.not_lt.1 h1) (UInt8.not_lt.1 h)
        simp [this]
/-- Where a key's row is, or would be. -/
structure Plc (l : List VRow) (key : List UInt8) (i : Nat) (b : Bool) : Prop where
  le : i ≤ l.length
  left : i = 0 ∨ ∃ x, l[i - 1]? = some x ∧ ltB x.key key = true
  right : l.length ≤ i ∨ ∃ x, l[i]? = some x ∧ ltB x.key key = false
  hit : (b = true ↔ ∃ x, l[i]? = some x ∧ x.key = key)
structure PlcRet (w w' : World) (e : Ending) (l : List VRow) (key : List UInt8) : Prop where
  out : ∃ (i : Nat) (b : Bool), e = .returned (.tuple #[.int .i64 i, .bool b]) ∧ More w w' ∧ Plc l key i b
set_option maxRecDepth 100000 in
set_option maxHeartbeats 1600000 in
theorem bsf_any (l : List VRow) (key : List UInt8) (a : Option Addr) (cap : Nat) (w : World) (hr : VRowsAt w a l) (hl : l.length ≤ 1000000) :
    Calls Try.prog 65 #[.slice a l.length cap, .agg #[.string (str key), .string ⟨#[]⟩, .int .i64 0, .int .i64 0], .func (.func 59) #[] #[]] w fun e w' => PlcRet w w' e l key := by
  have HA := Lib.hid hr
  have HCM := Lib.hid (fun (x : VRow) W => (show Calls Try.prog 59 #[rowV x, .agg #[.string (str key), .string ⟨#[]⟩, .int .i64 0, .int .i64 0]] W (fun e w' => e = .returned (.int .i64 (cmpK x ⟨key, [], 0, 0⟩)) ∧ More W w') from bykey_more x ⟨key, [], 0, 0⟩ W))
  obtain ⟨N, hN⟩ : ∃ N, l.length = N := ⟨_, rfl⟩
  have HN := Lib.hid hN
  rw [hN] at hl ⊢
  clear hr hN
  refine calls_wd ?_
  go_enter Try.func65, Try.ntmps65
  go_wp2
  go_loopw [9, 10] (fun s9 s10 wr => ∃ (i j : Nat) (m : Ext), s9 = .int .i64 i ∧ s10 = .int .i64 j ∧ i ≤ j ∧ j ≤ N ∧ wr = wd w [m.e, #[.cells #[.string (str key), .string ⟨#[]⟩, .int .i64 0, .int .i64 0] 34]] m.n ∧
    Hid ((i = 0 ∨ ∃ x, l[i - 1]? = some x ∧ ltB x.key key = true) ∧ (N ≤ j ∨ ∃ x, l[j]? = some x ∧ ltB x.key key = false))) (fun s9 s10 _ => (intOf s10).toNat - (intOf s9).toNat)
  case atStart => exact ⟨0, N, ⟨#[], w.drawn⟩, rfl, rfl, Nat.zero_le _, Nat.le_refl _, (wd_empty _ _ _).symm, Lib.hid ⟨.inl rfl, .inl (Nat.le_refl _)⟩⟩
  case round =>
    obtain ⟨i, j, m, rfl, rfl, hij, hjN, rfl, HI⟩ := hrel
    by_cases hlt : i < j
    · have hltz : (i : Int) < (j : Int) := by omega
      obtain ⟨h, hh⟩ : ∃ h, (i + j) / 2 = h := ⟨_, rfl⟩
      have hhz : ((i : Int) + (j : Int)) / 2 = (h : Int) := by omega
      have hh1 : i ≤ h := by omega
      have hh2 : h < j := by omega
      clear hh
      obtain ⟨x, hx⟩ : ∃ x, l[h]? = some x := ⟨_, List.getElem?_eq_getElem (by rw [HN.out]; omega)⟩
      obtain ⟨bb, off, rfl, hb, c0, c1, c2, c3⟩ := vrows_at HA.out h x hx
      have HX := Lib.hid hx
      have HCX := Lib.hid (fun W => HCM.out x W)
      have HLT := Lib.hid (cmpB_lt x.key key)
      obtain ⟨r, hrr⟩ : ∃ r, cmpK x ⟨key, [], 0, 0⟩ = r := ⟨_, rfl⟩
      have hrr' : Lib.compareBytes x.key key = r := hrr
      rw [hrr'] at HLT
      rw [hrr] at HCX
      clear hx hrr hrr'
      obtain ⟨xk, xv, xo, xt⟩ := x
      dsimp only at c0 c1 c2 c3 HCX HLT
      by_cases hneg : r < 0
      · go_wp2
        refine wp_region_wd (by kernel_rfl) (by kernel_rfl) ?_
        repeat (go_big_quiet_step (((go_at_call 59; with_reducible exact Calls.wd_of (HCX.out _)))))
        refine wpQuiet_nil ?_
        rintro _ ⟨mx, rfl⟩
        go_wp2
        go_roundw
        case rel => exact ⟨h + 1, j, ⟨_, _⟩, by go_num, rfl, by omega, hjN, by first | rfl | exact wd_merge _ _ _ _ _, Lib.hid ⟨.inr ⟨_, HX.out, HLT.out.1 hneg⟩, HI.out.2⟩⟩
        case measure => simp [intOf]; omega
      · have HNEG := Lib.hid hneg
        go_wp2
        refine wp_region_wd (by kernel_rfl) (by kernel_rfl) ?_
        repeat (go_big_quiet_step (((go_at_call 59; with_reducible exact Calls.wd_of (HCX.out _)))))
        refine wpQuiet_nil ?_
        rintro _ ⟨mx, rfl⟩
        go_wp2
        go_roundw
        case rel => exact ⟨i, h, ⟨_, _⟩, rfl, rfl, hh1, by omega, by first | rfl | exact wd_merge _ _ _ _ _, Lib.hid ⟨HI.out.1, .inr ⟨_, HX.out, by rw [← Bool.not_eq_true]; intro hc; have h1 := HLT.out.2 hc; have h2 := HNEG.out; omega⟩⟩⟩
        case measure => simp [intOf]; omega
    · have hltz : ¬ (i : Int) < (j : Int) := by omega
      obtain rfl : i = j := by omega
      by_cases hiN : i < N
      · have hiz : (i : Int) < (N : Int) := by omega
        obtain ⟨x, hx⟩ : ∃ x, l[i]? = some x := ⟨_, List.getElem?_eq_getElem (by rw [HN.out]; omega)⟩
        obtain ⟨bb, off, rfl, hb, c0, c1, c2, c3⟩ := vrows_at HA.out i x hx
        have HX := Lib.hid hx
        have HCX := Lib.hid (fun W => HCM.out x W)
        have HZ := Lib.hid (cmpB_zero x.key key)
        obtain ⟨r, hrr⟩ : ∃ r, cmpK x ⟨key, [], 0, 0⟩ = r := ⟨_, rfl⟩
        have hrr' : Lib.compareBytes x.key key = r := hrr
        rw [hrr'] at HZ
        rw [hrr] at HCX
        clear hx hrr hrr'
        obtain ⟨xk, xv, xo, xt⟩ := x
        dsimp only at c0 c1 c2 c3 HCX HZ
        go_wp2
        refine wp_region_wd (by kernel_rfl) (by kernel_rfl) ?_
        repeat (go_big_quiet_step (((go_at_call 59; with_reducible exact Calls.wd_of (HCX.out _)))))
        refine wpQuiet_nil ?_
        rintro _ ⟨mx, rfl⟩
        go_wp2
        refine bodyPost_ret (v := .tuple #[.int .i64 i, .bool (r == 0)]) (by simp [results, Try.results65, go_sem]) rfl ?_
        refine ⟨i, _, rfl, more_wd _ _ _, by rw [HN.out]; omega, HI.out.1, by rw [HN.out]; exact HI.out.2, ?_⟩
        rw [beq_iff_eq, HZ.out]
        exact ⟨fun h => ⟨_, HX.out, h⟩, fun ⟨y, h1, h2⟩ => by rw [HX.out] at h1; cases h1; exact h2⟩
      · have hiz : ¬ (i : Int) < (N : Int) := by omega
        go_wp2
        refine wp_region_wd (by kernel_rfl) (by kernel_rfl) ?_
        repeat (go_big_quiet_step ((fail)))
        refine wpQuiet_nil ?_
        rintro _ ⟨mx, rfl⟩
        go_wp2
        refine bodyPost_ret (v := .tuple #[.int .i64 i, .bool false]) (by simp [results, Try.results65, go_sem]) rfl ?_
        refine ⟨i, _, rfl, more_wd _ _ _, by rw [HN.out]; omega, HI.out.1, by rw [HN.out]; exact HI.out.2, ?_⟩
        constructor
        · intro h; cases h
        · rintro ⟨y, h1, _⟩
          have := (List.getElem?_eq_some_iff.1 h1).1
          rw [HN.out] at this; omega
set_option maxRecDepth 100000 in
theorem place_any (v : Vw) (key : List UInt8) (a : Option Addr) (cap : Nat) (w : World) (hr : VRowsAt w a v.rows) (hl : v.rows.length ≤ 1000000) :
    Calls Try.prog 34 #[.agg #[.int .i64 v.next, .slice a v.rows.length cap], .string (str key)] w fun e w' => PlcRet w w' e v.rows key := by
  have HB := Lib.hid (fun W hm => bsf_any v.rows key a cap W (hr.more (w' := W) hm) hl)
  obtain ⟨nx, l⟩ := v
  dsimp only at HB ⊢
  clear hr
  refine calls_wd ?_
  go_enter Try.func34, Try.ntmps34
  go_wp2_with (first | (go_at_call 65; ((with_reducible refine (HB.out _ (more_wd _ _ _)).mono ?_); rintro e w2 hq; obtain ⟨i, b, rfl, ⟨x1, n1, rfl⟩, hp⟩ := hq.out; have HP := Lib.hid hp; clear hp hq)))
  refine bodyPost_ret (v := .tuple #[.int .i64 i, .bool b]) (by simp [results, Try.results34, go_sem]) rfl ?_
  exact ⟨i, b, rfl, more_wd _ _ _, HP.out⟩
theorem plc_row {w : World} {a : Option Addr} {l : List VRow} {key : List UInt8} {i : Nat} (HA : VRowsAt w a l) (hp : Plc l key i true) : ∃ xk xv xo xt bb off, a = some ⟨bb, off, none⟩ ∧ (i : Int) < (l.length : Int) ∧ bb < w.heap.size ∧ w.cell? ⟨bb, off + i * 4, none⟩ = some (.string (str xk)) ∧ w.cell? ⟨bb, off + i * 4 + 1, none⟩ = some (.string (str xv)) ∧ w.cell? ⟨bb, off + i * 4 + 2, none⟩ = some (.int .i64 xo) ∧ w.cell? ⟨bb, off + i * 4 + 3, none⟩ = some (.int .i64 xt) ∧ Hid (l[i]? = some ⟨xk, xv, xo, xt⟩) := by
  obtain ⟨x, hx, hk⟩ := hp.hit.1 rfl
  have hil : i < l.length := (List.getElem?_eq_some_iff.1 hx).1
  obtain ⟨bb, off, rfl, hb, c0, c1, c2, c3⟩ := vrows_at HA i x hx
  exact ⟨x.key, x.value, x.offset, x.time, bb, off, rfl, by omega, hb, c0, c1, c2, c3, Lib.hid hx⟩
theorem plc_split {w : World} {a : Option Addr} {l : List VRow} {key : List UInt8} {i : Nat} {b : Bool} (HA : VRowsAt w a l) (hp : Plc l key i b) : b = false ∨ (b = true ∧ ∃ xk xv xo xt bb off, a = some ⟨bb, off, none⟩ ∧ (i : Int) < (l.length : Int) ∧ bb < w.heap.size ∧ w.cell? ⟨bb, off + i * 4, none⟩ = some (.string (str xk)) ∧ w.cell? ⟨bb, off + i * 4 + 1, none⟩ = some (.string (str xv)) ∧ w.cell? ⟨bb, off + i * 4 + 2, none⟩ = some (.int .i64 xo) ∧ w.cell? ⟨bb, off + i * 4 + 3, none⟩ = some (.int .i64 xt) ∧ Hid (l[i]? = some ⟨xk, xv, xo, xt⟩)) := by
  cases b with
  | false => exact .inl rfl
  | true => exact .inr ⟨rfl, plc_row HA hp⟩
structure GetRet (w w' : World) (e : Ending) (l : List VRow) (key : List UInt8) : Prop where
  out : ∃ (x : VRow) (b : Bool), e = .returned (.tuple #[rowA x, .bool b]) ∧ More w w' ∧ ∃ i, Plc l key i b ∧ (b = true → l[i]? = some x) ∧ (b = false → x = VRow.zero)
set_option maxRecDepth 100000 in
set_option maxHeartbeats 800000 in
theorem pget_any (v : Vw) (key : List UInt8) (a : Option Addr) (cap : Nat) (w : World) (hr : VRowsAt w a v.rows) (hl : v.rows.length ≤ 1000000) :
    Calls Try.prog 11 #[.agg #[.int .i64 v.next, .slice a v.rows.length cap], .string (str key)] w fun e w' => GetRet w w' e v.rows key := by
  have HB := Lib.hid (fun W hm => place_any v key a cap W (hr.more (w' := W) hm) hl)
  have HA := Lib.hid hr
  obtain ⟨nx, l⟩ := v
  dsimp only at HB HA hl ⊢
  clear hr
  refine calls_wd ?_
  go_enter Try.func11, Try.ntmps11
  go_wp2_with (first | (go_at_call 34; ((with_reducible refine (HB.out _ (more_wd _ _ _)).mono ?_); rintro e w2 hq; obtain ⟨i, b, rfl, ⟨x1, n1, rfl⟩, hp⟩ := hq.out; have HP := Lib.hid hp; have hsp := plc_split HA.out hp; clear hp hq; rcases hsp with hsp | ⟨hsp, xk, xv, xo, xt, bb, off, ha, hiz, hb, c0, c1, c2, c3, HX⟩; all_goals subst hsp; all_goals try subst ha)))
  · refine bodyPost_ret (v := .tuple #[.agg #[.string ⟨#[]⟩, .string ⟨#[]⟩, .int .i64 0, .int .i64 0], .bool false]) (by simp [results, Try.results11, go_sem]) rfl ?_
    exact ⟨VRow.zero, false, rfl, more_wd _ _ _, i, HP.out, fun h => (by cases h), fun _ => rfl⟩
  · refine bodyPost_ret (v := .tuple #[.agg #[.string (str xk), .string (str xv), .int .i64 xo, .int .i64 xt], .bool true]) (by simp [results, Try.results11, go_sem]) rfl ?_
    exact ⟨⟨xk, xv, xo, xt⟩, true, rfl, more_wd _ _ _, i, HP.out, fun _ => HX.out, fun h => (by cases h)⟩
end Go.Proofs.Ytlanghikmccmbaa
