/- law 36, ViewGoes: plain laws: batches that rise. -/
import Derived.Test.YtlanghikmccmbaaVO
import Derived.Test.YtlanghikmccmbaaVP
import Derived.Test.YtlanghikmccmbaaVN
import Derived.Test.YtlanghikmccmbaaLD
import Derived.Test.YtlanghikmccmbaaVW
namespace Go.Proofs.Ytlanghikmccmbaa
open Go.ChangeShapes Go.WideShapes Go.ChangeAt Go.RowKit
set_option linter.unusedVariables false
set_option linter.unusedSimpArgs false
/-- Batches that may be, one behind the other. -/
def risesB : Int → List Bat → Bool
  | _, [] => true
  | next, b :: l => if batCheck b ≠ 0 ∨ b.base < next then false else risesB (b.base + b.count) l
def goV (v : Vw) (b : Bat) : Vw := ⟨b.base + b.count, foldR b.base v.rows b.recs⟩
def goVs (v : Vw) (l : List Bat) : Vw := l.foldl goV v
theorem oneR_lenG (l : List VRow) (r : Rec) (o : Int) : (oneR l r o).length ≤ l.length + 1 := by
  have hw : (wo r.key l).length ≤ l.length := List.length_filter_le ..
  unfold oneR
  split
  · omega
  · split
    · omega
    · simp only [List.length_append, List.length_take, List.length_drop, List.length_singleton]; omega
theorem foldR_lenG (base : Int) : ∀ (rs : List Rec) (l : List VRow), (foldR base l rs).length ≤ l.length + rs.length
  | [], l => Nat.le_refl _
  | r :: rs, l => by
    have h1 := foldR_lenG base rs (oneR l r (base + r.delta))
    have h2 := oneR_lenG l r (base + r.delta)
    rw [List.length_cons]
    show (foldR base (oneR l r (base + r.delta)) rs).length ≤ _
    omega
theorem foldR_memG (base : Int) : ∀ (rs : List Rec) (l : List VRow) (x : VRow), x ∈ foldR base l rs → x ∈ l ∨ ∃ r ∈ rs, x = rowOf r (base + r.delta)
  | [], l, x, h => .inl h
  | r :: rs, l, x, h => by
    rcases foldR_memG base rs (oneR l r (base + r.delta)) x h with h1 | ⟨r', h1, h2⟩
    · rcases oneR_mem h1 with h3 | h3
      · exact .inl h3
      · exact .inr ⟨r, by simp, h3⟩
    · exact .inr ⟨r', by simp [h1], h2⟩
theorem chk_each {count : Int} : ∀ {rs : List Rec} {last : Int}, chk last count rs = 0 → ∀ r ∈ rs, recCheck r = 0 ∧ last < r.delta ∧ r.delta < count
  | [], _, _, r, hr => by cases hr
  | s :: rs, last, h, r, hr => by
    rw [chk] at h
    split at h
    · next h1 => exact absurd h h1
    · next h1 =>
      split at h
      · cases h
      · next h2 =>
        rcases List.mem_cons.1 hr with rfl | hr
        · exact ⟨Classical.byContradiction h1, by omega, by omega⟩
        · have := chk_each h r hr
          exact ⟨this.1, by omega, this.2.2⟩
theorem recCheck_row {r : Rec} (h : recCheck r = 0) : r.key.length ≤ 64 ∧ r.value.length ≤ 512 ∧ 0 ≤ r.time ∧ r.time ≤ 1099511627776 := by
  unfold recCheck at h
  split at h
  · cases h
  · split at h
    · cases h
    · omega
theorem ascB_of {l : List VRow} (h : Asc l) : ascB l = true := (ascB_iff l).2 fun k x y hx hy => by
  obtain ⟨hi, rfl⟩ := List.getElem?_eq_some_iff.1 hx
  obtain ⟨hj, rfl⟩ := List.getElem?_eq_some_iff.1 hy
  exact List.pairwise_iff_getElem.1 h k (k + 1) hi hj (by omega)
theorem row_more {x : VRow} {n m : Int} (h : rowE x n = 0) (hn : n ≤ m) : rowE x m = 0 := by
  have := rowE_ok h
  unfold rowE
  rw [if_neg (by omega), if_neg (by omega)]
theorem check_of {v : Vw} (h1 : 0 ≤ v.next) (h2 : v.next ≤ 4611686018427387903) (h3 : v.rows.length ≤ 4096) (h4 : ∀ x ∈ v.rows, rowE x v.next = 0) (h5 : ascB v.rows = true) : viewCheck v = 0 := by
  unfold viewCheck
  rw [if_neg (by omega), rowsE_good _ h4, if_neg (by simp), if_pos h5]
theorem zero_good : viewCheck Vw.zero = 0 := check_of (by decide) (by decide) (by decide) (fun x hx => by cases hx) rfl
theorem go_good {v : Vw} {b : Bat} (hv : viewCheck v = 0) (hb : batCheck b = 0) (hn : v.next ≤ b.base) (hl : v.rows.length + b.recs.length ≤ 4096) : applyR v b = (goV v b, 0) ∧ viewCheck (goV v b) = 0 := by
  have hfl := foldR_lenG b.base b.recs v.rows
  obtain ⟨n1, c1⟩ := batCheck_ok hb
  have hbn := batNum_ok n1
  have hbm : b.base + b.count ≤ 4611686018427387903 := by
    unfold batNum at n1
    split at n1
    · cases n1
    · omega
  obtain ⟨v1, v2, v3, v4, v5⟩ := viewCheck_ok hv
  constructor
  · unfold applyR
    rw [if_neg (by rw [hv]; simp), if_neg (by rw [hb]; simp), if_neg (by omega), if_neg (by omega)]
    rfl
  · refine check_of (v := goV v b) (by show 0 ≤ b.base + b.count; omega) hbm (by show (foldR b.base v.rows b.recs).length ≤ _; omega) ?_ (ascB_of (fold_asc b.base b.recs (asc_of v5)))
    intro x hx
    rcases foldR_memG b.base b.recs v.rows x hx with h | ⟨r, hr, rfl⟩
    · exact row_more (rowsE_each v4 x h) (by show v.next ≤ b.base + b.count; omega)
    · obtain ⟨r1, r2, r3⟩ := chk_each c1 r hr
      have hrc := recCheck_row r1
      unfold rowE rowOf
      rw [if_neg (by simp only; omega), if_neg (by simp only; show ¬ (_ ∨ b.base + b.count ≤ _ ∨ _ ∨ _); omega)]
theorem rises_cons {next : Int} {b : Bat} {l : List Bat} (h : risesB next (b :: l) = true) : batCheck b = 0 ∧ next ≤ b.base ∧ risesB (b.base + b.count) l = true := by
  rw [risesB] at h
  split at h
  · cases h
  · next h1 => exact ⟨Classical.byContradiction fun h2 => h1 (.inl h2), by omega, h⟩
theorem rises_app : ∀ (l m : List Bat) (v : Vw), risesB v.next (l ++ m) = true → risesB v.next l = true ∧ risesB (goVs v l).next m = true
  | [], m, v, h => ⟨rfl, h⟩
  | b :: l, m, v, h => by
    obtain ⟨h1, h2, h3⟩ := rises_cons h
    have := rises_app l m (goV v b) h3
    refine ⟨?_, this.2⟩
    rw [risesB, if_neg (by rw [h1]; simp; exact h2)]
    exact this.1
theorem build_good : ∀ (l : List Bat) (v : Vw), viewCheck v = 0 → risesB v.next l = true → v.rows.length + 32 * l.length ≤ 4096 → buildG v l = (goVs v l, 0) ∧ viewCheck (goVs v l) = 0 ∧ (goVs v l).rows.length ≤ v.rows.length + 32 * l.length
  | [], v, hv, _, _ => ⟨rfl, hv, by simp [goVs]⟩
  | b :: l, v, hv, h, hl => by
    obtain ⟨h1, h2, h3⟩ := rises_cons h
    rw [List.length_cons] at hl ⊢
    have hr := (batNum_ok (batCheck_ok h1).1).2.2.2.2.2.2.2.2.2.2
    obtain ⟨g1, g2⟩ := go_good hv h1 h2 (by omega)
    have hfl := foldR_lenG b.base b.recs v.rows
    have hgl : (goV v b).rows.length ≤ v.rows.length + 32 := by show (foldR b.base v.rows b.recs).length ≤ _; omega
    obtain ⟨i1, i2, i3⟩ := build_good l (goV v b) g2 h3 (by omega)
    rw [buildG, g1, if_neg (by simp)]
    exact ⟨i1, i2, by show (goVs (goV v b) l).rows.length ≤ _; omega⟩
theorem asc_find {l : List VRow} (h : ascB l = true) {x : VRow} (hx : x ∈ l) : getR l x.key = (x, true) := by
  obtain ⟨k, hk⟩ := List.getElem?_of_mem hx
  refine getR_hit hk rfl fun j y hj hy he => ?_
  have := asc_lt h hy hk hj
  rw [he, ltB_irrefl] at this
  cases this
end Go.Proofs.Ytlanghikmccmbaa
/- law 36, ViewGoes: rising. -/
namespace Go.Proofs.Ytlanghikmccmbaa
open Go.ChangeShapes Go.WideShapes Go.ChangeAt Go.RowKit
set_option linter.unusedVariables false
set_option linter.unusedSimpArgs false
set_option maxRecDepth 100000 in
set_option maxHeartbeats 3200000 in
theorem rising_any (ad : Option Addr) (cap : Nat) (l : List Btm) (w : World) (h : BatsAt w ad l) (hf : ∀ x ∈ l, x.b.recs.length ≤ maxLen) (hm : l.length ≤ maxLen) :
    Calls Try.prog 27 #[.slice ad l.length cap] w fun e w' => e = .returned (.bool (risesB 0 (l.map Btm.b))) ∧ More w w' := by
  have HA := Lib.hid h
  have HF := Lib.hid hf
  unfold maxLen at hm
  obtain ⟨N, hN⟩ : ∃ N, l.length = N := ⟨_, rfl⟩
  have HN := Lib.hid hN
  obtain ⟨R, hR⟩ : ∃ R, risesB 0 (l.map Btm.b) = R := ⟨_, rfl⟩
  have HR := Lib.hid hR
  rw [hN] at hm ⊢
  rw [hR]
  clear h hf hN hR
  refine calls_wd ?_
  go_enter Try.func27, Try.ntmps27
  go_wp2
  go_loopw [3, 4] (fun s3 s4 wr => ∃ (k : Nat) (nx : Int) (m : Ext), k ≤ N ∧ s3 = .int .i64 nx ∧ s4 = .int .i64 k ∧ Hid (risesB nx ((l.drop k).map Btm.b) = R) ∧ wr = wd w [m.e] m.n) (fun _ s4 _ => N - (intOf s4).toNat)
  case atStart => exact ⟨0, 0, ⟨#[], w.drawn⟩, Nat.zero_le _, rfl, rfl, Lib.hid (by simpa using HR.out), (wd_empty _ _ _).symm⟩
  case round =>
    obtain ⟨k, nx, m, hkN, rfl, rfl, HI, rfl⟩ := hrel
    by_cases hlt : k < N
    · obtain ⟨x, hx⟩ : ∃ x, l[k]? = some x := ⟨_, List.getElem?_eq_getElem (by rw [HN.out]; exact hlt)⟩
      obtain ⟨bb, off, rfl, hb, c0, c1, c2, c3, c4, c5⟩ := bats_at HA.out k x hx
      have hmem := List.mem_of_getElem? hx
      have HCK := Lib.hid (fun W hm => check_bat x.b x.a x.cap W ((HA.out.each x hmem).more (w' := W) hm) (HF.out x hmem))
      have HD := Lib.hid (drop_at l k x hx)
      obtain ⟨e, he⟩ : ∃ e, batCheck x.b = e := ⟨_, rfl⟩
      have HE := Lib.hid he
      rw [he] at HCK
      clear hx hmem he
      by_cases h0 : e = 0
      · subst h0
        have hbn := batNum_ok (batCheck_ok HE.out).1
        have hcnt := hbn.1
        have hcnt2 := hbn.2.1
        have hbs0 := hbn.2.2.1
        have hbs1 := hbn.2.2.2.1
        have HNX := Lib.hid (fun W => pnext_any x.b x.a x.b.recs.length x.cap W hbs0 hbs1 hcnt hcnt2)
        clear hbn
        by_cases hlt2 : x.b.base < nx
        · have HS : Hid (false = R) := Lib.hid (by rw [← HI.out, HD.out, List.map_cons, risesB, if_pos (.inr hlt2)])
          obtain ⟨⟨b0, b1, b2, b3, b4, rs⟩, xa, xc⟩ := x
          dsimp only at HCK HNX c0 c1 c2 c3 c4 c5 hlt2 hbs0 hbs1 hcnt hcnt2
          go_wp2_with (first | (go_at_call 55; ((with_reducible refine (HCK.out _ (more_wd _ _ _)).mono ?_); rintro e w1 ⟨rfl, x1, n1, rfl⟩)))
          go_ret
          exact ⟨by rw [← HS.out]; rfl, more_wd _ _ _⟩
        · have HS : Hid (risesB (x.b.base + x.b.count) ((l.drop (k + 1)).map Btm.b) = R) := Lib.hid (by rw [← HI.out, HD.out, List.map_cons, risesB, if_neg (by rw [HE.out]; simp; omega)])
          obtain ⟨⟨b0, b1, b2, b3, b4, rs⟩, xa, xc⟩ := x
          dsimp only at HCK HNX HS c0 c1 c2 c3 c4 c5 hlt2 hbs0 hbs1 hcnt hcnt2
          go_wp2_with (first | (go_at_call 55; ((with_reducible refine (HCK.out _ (more_wd _ _ _)).mono ?_); rintro e w1 ⟨rfl, x1, n1, rfl⟩)) | (go_at_call 56; ((with_reducible refine (HNX.out _).mono ?_); rintro e w1 ⟨rfl, x1, n1, rfl⟩)))
          go_roundw
          case rel => exact ⟨k + 1, b0 + b1, ⟨_, _⟩, by omega, rfl, by go_num, HS, by first | rfl | (rw [wd_merge, wd_merge]) | (rw [wd_merge])⟩
          case measure => simp [intOf]; omega
      · have hgb : (e == 0) = false := by rw [beq_eq_false_iff_ne]; exact h0
        have hgb2 : (e != 0) = true := by rw [bne_iff_ne]; exact h0
        have HS : Hid (false = R) := Lib.hid (by rw [← HI.out, HD.out, List.map_cons, risesB, if_pos (.inl (by rw [HE.out]; exact h0))])
        obtain ⟨⟨b0, b1, b2, b3, b4, rs⟩, xa, xc⟩ := x
        dsimp only at HCK c0 c1 c2 c3 c4 c5
        go_wp2_with (first | (go_at_call 55; ((with_reducible refine (HCK.out _ (more_wd _ _ _)).mono ?_); rintro e w1 ⟨rfl, x1, n1, rfl⟩)))
        go_ret
        exact ⟨by rw [← HS.out]; rfl, more_wd _ _ _⟩
    · have HS : Hid (true = R) := Lib.hid (by rw [← HI.out, List.drop_eq_nil_of_le (by rw [HN.out]; omega)]; rfl)
      go_wp2
      go_ret
      exact ⟨by rw [← HS.out]; rfl, more_wd _ _ _⟩
end Go.Proofs.Ytlanghikmccmbaa
