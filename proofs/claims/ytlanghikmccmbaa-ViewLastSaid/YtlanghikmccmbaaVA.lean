/- view, plain: rows, views; what is told of a row. -/
import Derived.Test.YtlanghikmccmbaaMC
import Derived.Shelf.SlSorted.Search
import Derived.Shelf.Spec.SlicesGrow
import Derived.Ground.Names8Prog
namespace Go.Proofs.Ytlanghikmccmbaa
open Go.ChangeShapes Go.WideShapes Go.ChangeAt Go.RowKit
set_option linter.unusedVariables false
set_option linter.unusedSimpArgs false

structure VRow where
  key : List UInt8
  value : List UInt8
  offset : Int
  time : Int
deriving DecidableEq
def VRow.zero : VRow := ⟨[], [], 0, 0⟩
instance : Inhabited VRow := ⟨VRow.zero⟩
structure Vw where
  next : Int
  rows : List VRow
def Vw.zero : Vw := ⟨0, []⟩
instance : Inhabited Vw := ⟨Vw.zero⟩
def vrCells (x : VRow) : List Value := [.string (str x.key), .string (str x.value), .int .i64 x.offset, .int .i64 x.time]
theorem vrCells_len (x : VRow) : (vrCells x).length = 4 := rfl
abbrev VRowsAt (w : World) (a : Option Addr) (l : List VRow) : Prop := RowAt vrCells 4 w a l
/-- The four cells of the k-th row. -/
theorem vrows_at {w : World} {a : Option Addr} {l : List VRow} (h : VRowsAt w a l) (k : Nat) (x : VRow) (hx : l[k]? = some x) : ∃ b off, a = some ⟨b, off, none⟩ ∧ b < w.heap.size ∧
    w.cell? ⟨b, off + k * 4, none⟩ = some (.string (str x.key)) ∧ w.cell? ⟨b, off + k * 4 + 1, none⟩ = some (.string (str x.value)) ∧ w.cell? ⟨b, off + k * 4 + 2, none⟩ = some (.int .i64 x.offset) ∧ w.cell? ⟨b, off + k * 4 + 3, none⟩ = some (.int .i64 x.time) := by
  obtain ⟨b, off, ha, hb, g⟩ := h.at vrCells_len k x hx
  exact ⟨b, off, ha, hb, g 0 (by omega), g 1 (by omega), g 2 (by omega), g 3 (by omega)⟩
/-- One text stands ahead of another one. -/
def ltB (a b : List UInt8) : Bool := Op.bytesLess a b
theorem less_str (a b : List UInt8) : Op.bytesLess (str a).toList (str b).toList = ltB a b := by rw [str_toList, str_toList]; rfl
def rowE (x : VRow) (next : Int) : Int :=
  if 64 < x.key.length ∨ 512 < x.value.length then 5 else if x.offset < 0 ∨ next ≤ x.offset ∨ x.time < 0 ∨ 1099511627776 < x.time then 11 else 0
def rowsE (next : Int) : List VRow → Int
  | [] => 0
  | x :: l => if rowE x next ≠ 0 then rowE x next else rowsE next l
def ascB : List VRow → Bool
  | x :: y :: l => ltB x.key y.key && ascB (y :: l)
  | _ => true
def viewCheck (v : Vw) : Int :=
  if v.next < 0 ∨ 4611686018427387903 < v.next ∨ 4096 < v.rows.length then 11 else if rowsE v.next v.rows ≠ 0 then rowsE v.next v.rows else if ascB v.rows then 0 else 16
theorem rowsE_bad {next : Int} : ∀ (l : List VRow) (k : Nat) (x : VRow), l[k]? = some x → (∀ y ∈ l.take k, rowE y next = 0) → rowE x next ≠ 0 → rowsE next l = rowE x next
  | [], k, x, h, _, _ => by simp at h
  | y :: l, 0, x, h, _, hx => by simp at h; subst h; rw [rowsE, if_pos hx]
  | y :: l, k + 1, x, h, hk, hx => by
    rw [List.getElem?_cons_succ] at h
    rw [List.take_succ_cons] at hk
    rw [rowsE, if_neg (by simp [hk y (by simp)])]
    exact rowsE_bad l k x h (fun z hz => hk z (by simp [hz])) hx
theorem rowsE_good {next : Int} : ∀ (l : List VRow), (∀ y ∈ l, rowE y next = 0) → rowsE next l = 0
  | [], _ => rfl
  | y :: l, h => by rw [rowsE, if_neg (by simp [h y (by simp)])]; exact rowsE_good l (fun z hz => h z (by simp [hz]))
theorem ascB_iff : ∀ (l : List VRow), ascB l = true ↔ ∀ (k : Nat) (x y : VRow), l[k]? = some x → l[k + 1]? = some y → ltB x.key y.key = true
  | [] => by simp [ascB]
  | [x] => by
    simp only [ascB, true_iff]
    intro k a b h1 h2
    simp at h2
  | x :: y :: l => by
    rw [ascB, Bool.and_eq_true, ascB_iff (y :: l)]
    constructor
    · rintro ⟨h1, h2⟩ k a b ha hb
      cases k with
      | zero => simp at ha hb; subst ha hb; exact h1
      | succ k => rw [List.getElem?_cons_succ] at ha hb; exact h2 k a b ha hb
    · intro h
      exact ⟨h 0 x y rfl rfl, fun k a b ha hb => h (k + 1) a b (by rw [List.getElem?_cons_succ]; exact ha) (by rw [List.getElem?_cons_succ]; exact hb)⟩
theorem check_range {v : Vw} (h : v.next < 0 ∨ 4611686018427387903 < v.next ∨ 4096 < v.rows.length) : viewCheck v = 11 := by unfold viewCheck; rw [if_pos h]
theorem check_row {v : Vw} (h : ¬ (v.next < 0 ∨ 4611686018427387903 < v.next ∨ 4096 < v.rows.length)) (k : Nat) (x : VRow) (hx : v.rows[k]? = some x) (hk : ∀ y ∈ v.rows.take k, rowE y v.next = 0) (hr : rowE x v.next ≠ 0) : viewCheck v = rowE x v.next := by
  unfold viewCheck
  rw [if_neg h, rowsE_bad _ k x hx hk hr, if_pos hr]
theorem check_order {v : Vw} (h : ¬ (v.next < 0 ∨ 4611686018427387903 < v.next ∨ 4096 < v.rows.length)) (hk : ∀ y ∈ v.rows, rowE y v.next = 0) (k : Nat) (x y : VRow) (hx : v.rows[k]? = some x) (hy : v.rows[k + 1]? = some y) (hlt : ltB x.key y.key = false) : viewCheck v = 16 := by
  unfold viewCheck
  rw [if_neg h, rowsE_good _ hk, if_neg (by simp), if_neg]
  intro ha
  rw [(ascB_iff _).1 ha k x y hx hy] at hlt
  cases hlt
theorem check_good {v : Vw} (h : ¬ (v.next < 0 ∨ 4611686018427387903 < v.next ∨ 4096 < v.rows.length)) (hk : ∀ y ∈ v.rows, rowE y v.next = 0) (ho : ∀ (k : Nat) (x y : VRow), v.rows[k]? = some x → v.rows[k + 1]? = some y → ltB x.key y.key = true) : viewCheck v = 0 := by
  unfold viewCheck
  rw [if_neg h, rowsE_good _ hk, if_neg (by simp), if_pos ((ascB_iff _).2 ho)]
theorem viewCheck_ok {v : Vw} (h : viewCheck v = 0) : 0 ≤ v.next ∧ v.next ≤ 4611686018427387903 ∧ v.rows.length ≤ 4096 ∧ rowsE v.next v.rows = 0 ∧ ascB v.rows = true := by
  unfold viewCheck at h
  split at h
  · cases h
  · next h1 =>
    split at h
    · next h2 => exact absurd h h2
    · next h2 =>
      split at h
      · next h3 => exact ⟨by omega, by omega, by omega, Classical.byContradiction h2, h3⟩
      · cases h
theorem rowsE_each {next : Int} : ∀ {l : List VRow}, rowsE next l = 0 → ∀ x ∈ l, rowE x next = 0
  | [], _, x, hx => by simp at hx
  | y :: l, h, x, hx => by
    rw [rowsE] at h
    split at h
    · next h1 => exact absurd h h1
    · next h1 =>
      rcases List.mem_cons.1 hx with rfl | hx
      · exact Classical.byContradiction h1
      · exact rowsE_each h x hx
/-- The first k are sound, and so is the next one. -/
theorem take_ok' {α : Type} {p : α → Prop} {l : List α} {k : Nat} {x : α} (h : ∀ y ∈ l.take k, p y) (hx : l[k]? = some x) (hp : p x) : ∀ y ∈ l.take (k + 1), p y := by
  intro y hy
  rw [take_get l k x hx] at hy
  rcases List.mem_append.1 hy with hy | hy
  · exact h y hy
  · simp at hy; subst hy; exact hp
theorem rowE_ok {x : VRow} {next : Int} (h : rowE x next = 0) : x.key.length ≤ 64 ∧ x.value.length ≤ 512 ∧ 0 ≤ x.offset ∧ x.offset < next ∧ 0 ≤ x.time ∧ x.time ≤ 1099511627776 := by
  unfold rowE at h
  split at h
  · cases h
  · split at h
    · cases h
    · omega
end Go.Proofs.Ytlanghikmccmbaa
/- view: row, Check. -/
namespace Go.Proofs.Ytlanghikmccmbaa
open Go.ChangeShapes Go.WideShapes Go.ChangeAt Go.RowKit
set_option linter.unusedVariables false
set_option linter.unusedSimpArgs false

set_option maxRecDepth 100000 in
set_option maxHeartbeats 1600000 in
theorem row_any (k v : List UInt8) (o t next : Int) (w : World) (hk : k.length ≤ maxLen) (hv : v.length ≤ maxLen) : Calls Try.prog 64 #[.agg #[.string (str k), .string (str v), .int .i64 o, .int .i64 t], .int .i64 next] w fun x w' => x = .returned (.int .i64 (rowE ⟨k, v, o, t⟩ next)) ∧ More w w' := by
  have hs1 := str_size k
  have hs2 := str_size v
  unfold maxLen at hk hv
  have HE : Hid (rowE ⟨k, v, o, t⟩ next = if 64 < k.length ∨ 512 < v.length then 5 else if o < 0 ∨ next ≤ o ∨ t < 0 ∨ 1099511627776 < t then 11 else 0) := Lib.hid rfl
  by_cases h1 : 64 < k.length
  · refine calls_wd ?_
    go_enter Try.func64, Try.ntmps64
    go_wp2
    go_ret
    exact ⟨by rw [HE.out, if_pos (.inl h1)]; rfl, more_wd _ _ _⟩
  by_cases h2 : 512 < v.length
  · refine calls_wd ?_
    go_enter Try.func64, Try.ntmps64
    go_wp2
    go_ret
    exact ⟨by rw [HE.out, if_pos (.inr h2)]; rfl, more_wd _ _ _⟩
  by_cases h3 : o < 0
  · refine calls_wd ?_
    go_enter Try.func64, Try.ntmps64
    go_wp2
    go_ret
    exact ⟨by rw [HE.out, if_neg (by omega), if_pos (by omega)]; rfl, more_wd _ _ _⟩
  by_cases h4 : next ≤ o
  · refine calls_wd ?_
    go_enter Try.func64, Try.ntmps64
    go_wp2
    go_ret
    exact ⟨by rw [HE.out, if_neg (by omega), if_pos (by omega)]; rfl, more_wd _ _ _⟩
  by_cases h5 : t < 0
  · refine calls_wd ?_
    go_enter Try.func64, Try.ntmps64
    go_wp2
    go_ret
    exact ⟨by rw [HE.out, if_neg (by omega), if_pos (by omega)]; rfl, more_wd _ _ _⟩
  by_cases h6 : 1099511627776 < t
  · refine calls_wd ?_
    go_enter Try.func64, Try.ntmps64
    go_wp2
    go_ret
    exact ⟨by rw [HE.out, if_neg (by omega), if_pos (by omega)]; rfl, more_wd _ _ _⟩
  · refine calls_wd ?_
    go_enter Try.func64, Try.ntmps64
    go_wp2
    go_ret
    exact ⟨by rw [HE.out, if_neg (by omega), if_neg (by omega)]; rfl, more_wd _ _ _⟩
abbrev vbox (next : Int) (a : Option Addr) (n cap : Nat) (t : TypeId) : Array Obj := #[.cells #[.int .i64 next, .slice a n cap] t]
abbrev rbox (k v : List UInt8) (o t : Int) (T : TypeId) : Array Obj := #[.cells #[.string (str k), .string (str v), .int .i64 o, .int .i64 t] T]
set_option maxRecDepth 100000 in
set_option maxHeartbeats 3200000 in
theorem vcheck_any (v : Vw) (a : Option Addr) (cap : Nat) (w : World) (hr : VRowsAt w a v.rows) (hf : ∀ x ∈ v.rows, x.key.length ≤ maxLen ∧ x.value.length ≤ maxLen) (hl : v.rows.length ≤ maxLen) :
    Calls Try.prog 33 #[.agg #[.int .i64 v.next, .slice a v.rows.length cap]] w fun x w' => x = .returned (.int .i64 (viewCheck v)) ∧ More w w' := by
  have HR := Lib.hid hr
  have HF := Lib.hid hf
  obtain ⟨next, rows⟩ := v
  dsimp only at *
  unfold maxLen at hl
  clear hr hf
  by_cases h1 : next < 0
  · have HE := Lib.hid (check_range (v := ⟨next, rows⟩) (.inl h1))
    refine calls_wd ?_
    go_enter Try.func33, Try.ntmps33
    go_wp2
    go_ret
    exact ⟨by rw [HE.out]; rfl, more_wd _ _ _⟩
  by_cases h2 : 4611686018427387903 < next
  · have HE := Lib.hid (check_range (v := ⟨next, rows⟩) (.inr (.inl h2)))
    refine calls_wd ?_
    go_enter Try.func33, Try.ntmps33
    go_wp2
    go_ret
    exact ⟨by rw [HE.out]; rfl, more_wd _ _ _⟩
  by_cases h3 : 4096 < rows.length
  · have HE := Lib.hid (check_range (v := ⟨next, rows⟩) (.inr (.inr h3)))
    refine calls_wd ?_
    go_enter Try.func33, Try.ntmps33
    go_wp2
    go_ret
    exact ⟨by rw [HE.out]; rfl, more_wd _ _ _⟩
  have HNR : Hid (¬ (next < 0 ∨ 4611686018427387903 < next ∨ 4096 < rows.length)) := Lib.hid (by omega)
  have HC1 := Lib.hid (fun (k : Nat) (x : VRow) hx hk hr => check_row (v := ⟨next, rows⟩) HNR.out k x hx hk hr)
  have HC2 := Lib.hid (fun hk (k : Nat) (x y : VRow) hx hy hlt => check_order (v := ⟨next, rows⟩) HNR.out hk k x y hx hy hlt)
  have HC3 := Lib.hid (fun hk ho => check_good (v := ⟨next, rows⟩) HNR.out hk ho)
  obtain ⟨E, hE⟩ : ∃ E, viewCheck ⟨next, rows⟩ = E := ⟨_, rfl⟩
  rw [hE] at HC1 HC2 HC3
  dsimp only at HC1 HC2 HC3
  rw [hE]
  clear hE
  refine calls_wd ?_
  go_enter Try.func33, Try.ntmps33
  go_wp2
  go_loopw [24] (fun i wr => ∃ (k : Nat) (m : Ext), k ≤ rows.length ∧ i = .int .i64 k ∧ wr = wd w [m.e, vbox next a rows.length cap 32] m.n ∧ Hid (∀ y ∈ rows.take k, rowE y next = 0)) (fun i _ => rows.length - (intOf i).toNat)
  case atStart => exact ⟨0, ⟨#[], _⟩, Nat.zero_le _, rfl, by rw [wd_empty], Lib.hid (by simp)⟩
  case round =>
    obtain ⟨k, m, hk, rfl, rfl, HTK⟩ := hrel
    by_cases hlt : k < rows.length
    · obtain ⟨x, hx⟩ : ∃ x, rows[k]? = some x := ⟨_, List.getElem?_eq_getElem hlt⟩
      obtain ⟨bb, off, rfl, hb, c0, c1, c2, c3⟩ := vrows_at HR.out k x hx
      have hfx := HF.out x (List.mem_of_getElem? hx)
      have HRW := Lib.hid (fun W => row_any x.key x.value x.offset x.time next W hfx.1 hfx.2)
      have HBAD := Lib.hid (fun h => HC1.out k x hx HTK.out h)
      have HGO := Lib.hid (fun h => take_ok' (p := fun y => rowE y next = 0) HTK.out hx h)
      clear hx hfx
      obtain ⟨kk, vv, oo, tt⟩ := x
      dsimp only at *
      obtain ⟨RE, hRE⟩ : ∃ RE, rowE ⟨kk, vv, oo, tt⟩ next = RE := ⟨_, rfl⟩
      rw [hRE] at HRW HBAD HGO
      clear hRE
      by_cases hre : RE = 0
      · subst hre
        have HGO2 := Lib.hid (HGO.out rfl)
        clear HGO HBAD
        go_wp2_with (first | (go_at_call 64; ((with_reducible refine (HRW.out _).mono ?_); rintro e w1 ⟨rfl, x1, n1, rfl⟩)))
        go_roundw
        case rel => exact ⟨k + 1, ⟨m.e ++ (rbox kk vv oo tt 34 ++ x1), n1⟩, by omega, by go_num, by rw [wd_merge3], HGO2⟩
        case measure => simp [intOf]; omega
      · have HB2 := Lib.hid (HBAD.out hre)
        have hc' : (RE == 0) = false := beq_eq_false_iff_ne.2 hre
        have hc2 : (RE != 0) = true := by rw [bne_iff_ne]; exact hre
        clear HGO HBAD hre
        go_wp2_with (first | (go_at_call 64; ((with_reducible refine (HRW.out _).mono ?_); rintro e w1 ⟨rfl, x1, n1, rfl⟩)))
        go_ret
        exact ⟨by rw [HB2.out]; rfl, more_wd _ _ _⟩
    · have HALL : Hid (∀ y ∈ rows, rowE y next = 0) := Lib.hid (by have h := HTK.out; rw [List.take_of_length_le (by omega)] at h; exact h)
      have HC4 := Lib.hid (HC2.out HALL.out)
      have HC5 := Lib.hid (HC3.out HALL.out)
      clear HC1 HC2 HC3 HTK HALL HNR
      go_wp2
      go_loopw [6] (fun i wr => ∃ (j : Nat) (m' : Ext), 1 ≤ j ∧ j ≤ rows.length + 1 ∧ i = .int .i64 j ∧ wr = wd w [m'.e, vbox next a rows.length cap 32] m'.n ∧ Hid (∀ (i : Nat) (x y : VRow), i + 1 < j → rows[i]? = some x → rows[i + 1]? = some y → ltB x.key y.key = true)) (fun i _ => rows.length + 1 - (intOf i).toNat)
      case atStart => exact ⟨1, m, Nat.le_refl _, by omega, rfl, rfl, Lib.hid (by intro i x y h; omega)⟩
      case round =>
        obtain ⟨j, m2, hj1, hj2, rfl, rfl, HO⟩ := hrel
        by_cases hjl : j < rows.length
        · obtain ⟨i, rfl⟩ : ∃ i, j = i + 1 := ⟨j - 1, by omega⟩
          obtain ⟨x, hx⟩ : ∃ x, rows[i]? = some x := ⟨_, List.getElem?_eq_getElem (by omega)⟩
          obtain ⟨y, hy⟩ : ∃ y, rows[i + 1]? = some y := ⟨_, List.getElem?_eq_getElem hjl⟩
          obtain ⟨bb, off, rfl, hb, c0, c1, c2, c3⟩ := vrows_at HR.out i x hx
          obtain ⟨bb2, off2, he, hb2, d0, d1, d2, d3⟩ := vrows_at HR.out (i + 1) y hy
          cases he
          have hls := less_str x.key y.key
          obtain ⟨LT, hLT⟩ : ∃ LT, ltB x.key y.key = LT := ⟨_, rfl⟩
          have HX := Lib.hid (⟨hx, hy, hLT⟩ : rows[i]? = some x ∧ rows[i + 1]? = some y ∧ ltB x.key y.key = LT)
          rw [hLT] at hls
          clear hx hy hLT c1 c2 c3 d1 d2 d3
          obtain ⟨xk, xv, xo, xt⟩ := x
          obtain ⟨yk, yv, yo, yt⟩ := y
          dsimp only at c0 d0 hls
          cases LT with
          | true =>
            have HO2 : Hid (∀ (i' : Nat) (x y : VRow), i' + 1 < i + 1 + 1 → rows[i']? = some x → rows[i' + 1]? = some y → ltB x.key y.key = true) := Lib.hid (by
              intro i' x y h1 h2 h3
              by_cases he : i' = i
              · subst he
                obtain ⟨g1, g2, g3⟩ := HX.out
                rw [g1] at h2
                rw [g2] at h3
                cases h2; cases h3
                exact g3
              · exact HO.out i' x y (by omega) h2 h3)
            go_wp2
            refine wp_region_wd (by kernel_rfl) (by kernel_rfl) ?_
            repeat (go_big_quiet_step ((fail)))
            refine wpQuiet_nil ?_
            rintro _ ⟨mx, rfl⟩
            go_wp2
            go_roundw
            case rel => exact ⟨i + 1 + 1, ⟨m2.e ++ mx.e, mx.n⟩, by omega, by omega, by go_num, by rw [wd_merge], HO2⟩
            case measure => simp [intOf]; omega
          | false =>
            have HE := Lib.hid (HC4.out i _ _ HX.out.1 HX.out.2.1 HX.out.2.2)
            go_wp2
            refine wp_region_wd (by kernel_rfl) (by kernel_rfl) ?_
            repeat (go_big_quiet_step ((fail)))
            refine wpQuiet_nil ?_
            rintro _ ⟨mx, rfl⟩
            go_wp2
            go_ret
            exact ⟨by rw [HE.out]; rfl, more_wd _ _ _⟩
        · have HE := Lib.hid (HC5.out (fun i x y hx hy => HO.out i x y (by have := (List.getElem?_eq_some_iff.1 hy).1; omega) hx hy))
          go_wp2
          go_ret
          exact ⟨by rw [HE.out]; rfl, more_wd _ _ _⟩
end Go.Proofs.Ytlanghikmccmbaa
/- slices.Grow from nothing, slices.Concat of byte slices. -/
namespace Go.Proofs.Ytlanghikmccmbaa
open Go.ChangeShapes Go.WideShapes Go.ChangeAt Go.RowKit Go.Shelf
set_option linter.unusedVariables false
set_option linter.unusedSimpArgs false

shelf_lay_g Lays8.n4 Nm8 4 at Try 72 as Try.growB
abbrev srcCells (p : Value × List UInt8) : List Value := [p.1]
def catB (l : List (Value × List UInt8)) : List UInt8 := l.flatMap (·.2)
end Go.Proofs.Ytlanghikmccmbaa
