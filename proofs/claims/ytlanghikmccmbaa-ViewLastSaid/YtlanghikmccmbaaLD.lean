/- law 36, ViewLooks: plain laws; what the program tells of a good view. -/
import Derived.Test.YtlanghikmccmbaaLC
import Derived.Test.YtlanghikmccmbaaVS
import Derived.Test.YtlanghikmccmbaaVD
import Derived.Test.YtlanghikmccmbaaMF
namespace Go.Proofs.Ytlanghikmccmbaa
open Go.ChangeShapes Go.WideShapes Go.ChangeAt Go.RowKit
set_option linter.unusedVariables false
set_option linter.unusedSimpArgs false
theorem asc_lt {l : List VRow} (h : ascB l = true) {i j : Nat} {x y : VRow} (hx : l[i]? = some x) (hy : l[j]? = some y) (hij : i < j) : ltB x.key y.key = true := by
  have ha := asc_of h
  obtain ⟨hi, rfl⟩ := List.getElem?_eq_some_iff.1 hx
  obtain ⟨hj, rfl⟩ := List.getElem?_eq_some_iff.1 hy
  exact List.pairwise_iff_getElem.1 ha i j hi hj hij
theorem plc_left {l : List VRow} {key : List UInt8} {i : Nat} {b : Bool} (h : ascB l = true) (hp : Plc l key i b) {j : Nat} {y : VRow} (hy : l[j]? = some y) (hj : j < i) : ltB y.key key = true := by
  rcases hp.left with h0 | ⟨x, hx, hlt⟩
  · omega
  · by_cases he : j = i - 1
    · subst he; rw [hx] at hy; cases hy; exact hlt
    · exact ltB_trans (asc_lt h hy hx (by omega)) hlt
theorem plc_right {l : List VRow} {key : List UInt8} {i : Nat} {b : Bool} (h : ascB l = true) (hp : Plc l key i b) {j : Nat} {y : VRow} (hy : l[j]? = some y) (hj : i ≤ j) : ltB y.key key = false := by
  have hjl := (List.getElem?_eq_some_iff.1 hy).1
  rcases hp.right with h0 | ⟨x, hx, hlt⟩
  · omega
  · by_cases he : j = i
    · subst he; rw [hx] at hy; cases hy; exact hlt
    · have h1 := asc_lt h hx hy (by omega)
      cases hc : ltB y.key key with
      | false => rfl
      | true => rw [ltB_trans h1 hc] at hlt; cases hlt
theorem plc_get {l : List VRow} {key : List UInt8} {i : Nat} {b : Bool} {x : VRow} (h : ascB l = true) (hp : Plc l key i b) (h1 : b = true → l[i]? = some x) (h2 : b = false → x = VRow.zero) : getR l key = (x, b) := by
  cases b with
  | true =>
    have hx := h1 rfl
    obtain ⟨y, hy, hk⟩ := hp.hit.1 rfl
    rw [hx] at hy; cases hy
    refine getR_hit hx hk fun j y hj hy he => ?_
    have := plc_left h hp hy hj
    rw [he, ltB_irrefl] at this; cases this
  | false =>
    rw [h2 rfl]
    refine getR_miss fun j y hy he => ?_
    rcases Nat.lt_or_ge j i with hj | hj
    · have := plc_left h hp hy hj
      rw [he, ltB_irrefl] at this; cases this
    · by_cases hji : j = i
      · subst hji
        have := hp.hit.2 ⟨y, hy, he⟩
        cases this
      · obtain ⟨z, hz⟩ : ∃ z, l[i]? = some z := ⟨_, List.getElem?_eq_getElem (by have := (List.getElem?_eq_some_iff.1 hy).1; omega)⟩
        have h3 := plc_right h hp hz (Nat.le_refl _)
        have h4 := asc_lt h hz hy (by omega)
        rw [he, h3] at h4; cases h4
theorem pget_good (v : Vw) (hv : ascB v.rows = true) (key : List UInt8) (a : Option Addr) (cap : Nat) (w : World) (hr : VRowsAt w a v.rows) (hl : v.rows.length ≤ 1000000) :
    Calls Try.prog 11 #[.agg #[.int .i64 v.next, .slice a v.rows.length cap], .string (str key)] w fun e w' => e = .returned (.tuple #[rowA (getR v.rows key).1, .bool (getR v.rows key).2]) ∧ More w w' := by
  refine (pget_any v key a cap w hr hl).mono ?_
  rintro e w' hs
  obtain ⟨x, b, rfl, hm, i, hp, h1, h2⟩ := hs.out
  rw [plc_get hv hp h1 h2]
  exact ⟨rfl, hm⟩
end Go.Proofs.Ytlanghikmccmbaa
/- ViewLooks: the walk. -/
namespace Go.Proofs.Ytlanghikmccmbaa
open Go.ChangeShapes Go.WideShapes Go.ChangeAt Go.RowKit
set_option linter.unusedVariables false
set_option linter.unusedSimpArgs false
structure RowsIs (w w' : World) (e : Ending) (K : Nat) (rows : List VRow) : Prop where
  out : ∃ a c, e = .returned (.slice a K c) ∧ VRowsAt w' a rows ∧ More w w'
structure VwIsC (w w' : World) (x : Ending) (nx : Int) (N : Nat) (rows : List VRow) : Prop where
  out : ∃ a c, x = .returned (.agg #[.int .i64 nx, .slice a N c]) ∧ VRowsAt w' a rows ∧ More w w' ∧ N ≤ c ∧ c ≤ maxLen
/-- What the walk asks of the functions that the law calls. -/
structure LooksOk (w : World) (a : Option Addr) (cap N : Nat) (nx : Int) (rows : List VRow) (a2 : Option Addr) (cap2 M : Nat) (nu : Int) (rows2 : List VRow) (ak : List UInt8) (ao at_ : Int) (G : VRow × Bool) (S1 : List VRow) (K1 : Nat) (S2 : List VRow) (K2 : Nat) (sb : Bool) : Prop where
  own : ∀ W, More w W → Calls Try.prog 10 #[.agg #[.int .i64 nx, .slice a N cap]] W fun x w' => VwIsC W w' x nx N rows
  get : ∀ W a' c', VRowsAt W a' rows → Calls Try.prog 11 #[.agg #[.int .i64 nx, .slice a' N c'], .string (str ak)] W fun e w' => e = .returned (.tuple #[rowA G.1, .bool G.2]) ∧ More W w'
  rget : ∀ W, More w W → Calls Try.prog 12 #[.agg #[.int .i64 nx, .slice a N cap], .string (str ak)] W fun e w' => e = .returned (.tuple #[rowA G.1, .bool G.2]) ∧ More W w'
  scan : ∀ W a' c', VRowsAt W a' rows → N ≤ c' → c' ≤ maxLen → Calls Try.prog 15 #[.agg #[.int .i64 nx, .slice a' N c'], .string (str ak), .int .i64 at_] W fun e w' => RowsIs W w' e K1 S1
  rscan : ∀ W, More w W → Calls Try.prog 16 #[.agg #[.int .i64 nx, .slice a N cap], .string (str ak), .int .i64 at_] W fun e w' => RowsIs W w' e K1 S1
  as1 : ∀ W a' c', VRowsAt W a' S1 → Calls Try.prog 14 #[.slice a' K1 c'] W fun e w' => RowsIs W w' e K1 S1
  same1 : ∀ W a1 c1 a2 c2, VRowsAt W a1 S1 → VRowsAt W a2 S1 → Calls Try.prog 13 #[.slice a1 K1 c1, .slice a2 K1 c2] W fun e w' => e = .returned (.bool true) ∧ More W w'
  since : ∀ W a' c', VRowsAt W a' rows → Calls Try.prog 17 #[.agg #[.int .i64 nx, .slice a' N c'], .int .i64 ao] W fun e w' => RowsIs W w' e K2 S2
  rsince : ∀ W, More w W → Calls Try.prog 18 #[.agg #[.int .i64 nx, .slice a N cap], .int .i64 ao] W fun e w' => RowsIs W w' e K2 S2
  as2 : ∀ W a' c', VRowsAt W a' S2 → Calls Try.prog 14 #[.slice a' K2 c'] W fun e w' => RowsIs W w' e K2 S2
  same2 : ∀ W a1 c1 a2 c2, VRowsAt W a1 S2 → VRowsAt W a2 S2 → Calls Try.prog 13 #[.slice a1 K2 c1, .slice a2 K2 c2] W fun e w' => e = .returned (.bool true) ∧ More W w'
  own2 : ∀ W, More w W → Calls Try.prog 10 #[.agg #[.int .i64 nu, .slice a2 M cap2]] W fun x w' => VwIsC W w' x nu M rows2
  vsame : ∀ W a1 c1 a2 c2, VRowsAt W a1 rows → VRowsAt W a2 rows2 → Calls Try.prog 19 #[.agg #[.int .i64 nx, .slice a1 N c1], .agg #[.int .i64 nu, .slice a2 M c2]] W fun e w' => e = .returned (.bool sb) ∧ More W w'
  rsame : ∀ W, More w W → Calls Try.prog 20 #[.agg #[.int .i64 nx, .slice a N cap], .agg #[.int .i64 nu, .slice a2 M cap2]] W fun e w' => e = .returned (.bool sb) ∧ More W w'
end Go.Proofs.Ytlanghikmccmbaa
