/- law 36, ViewLooks: plain laws; what the program tells of a good view. -/
import Derived.Test.YtlanghikmccmbaaLC
import Derived.Test.YtlanghikmccmbaaVS
import Derived.Test.YtlanghikmccmbaaVD
import Derived.Test.YtlanghikmccmbaaMF
namespace Go.Proofs.Ytlanghikmccmbaa
open Go.ChangeShapes Go.WideShapes Go.ChangeAt Go.RowKit
set_option linter.unusedVariables false
set_option linter.unusedSimpArgs false
theorem asc_lt {l : List VRow} (h : ascB l = true) {i j : Nat} {x y : VRow} (hx : l[i]? = some x) (hy : l[j]? = some y) (hij : i < j) : ltB x.key y.key = true := by
  have ha := asc_of h
  obtain ⟨hi, rfl⟩ := List.getElem?_eq_some_iff.1 hx
  obtain ⟨hj, rfl⟩ := List.getElem?_eq_some_iff.1 hy
  exact List.pairwise_iff_getElem.1 ha i j hi hj hij
theorem plc_left {l : List VRow} {key : List UInt8} {i : Nat} {b : Bool} (h : ascB l = true) (hp : Plc l key i b) {j : Nat} {y : VRow} (hy : l[j]? = some y) (hj : j < i) : ltB y.key key = true := by
  rcases hp.left with h0 | ⟨x, hx, hlt⟩
  · omega
  · by_cases he : j = i - 1
    · subst he; rw [hx] at hy; cases hy; exact hlt
    · exact ltB_trans (asc_lt h hy hx (by omega)) hlt
theorem plc_right {l : List VRow} {key : List UInt8} {i : Nat} {b : Bool} (h : ascB l = true) (hp : Plc l key i b) {j : Nat} {y : VRow} (hy : l[j]? = some y) (hj : i ≤ j) : ltB y.key key = false := by
  have hjl := (List.getElem?_eq_some_iff.1 hy).1
  rcases hp.right with h0 | ⟨x, hx, hlt⟩
  · omega
  · by_cases he : j = i
    · subst he; rw [hx] at hy; cases hy; exact hlt
    · have h1 := asc_lt h hx hy (by omega)
      cases hc : ltB y.key key with
      | false => rfl
      | true => rw [ltB_trans h1 hc] at hlt; cases hlt
theorem plc_get {l : List VRow} {key : List UInt8} {i : Nat} {b : Bool} {x : VRow} (h : ascB l = true) (hp : Plc l key i b) (h1 : b = true → l[i]? = some x) (h2 : b = false → x = VRow.zero) : getR l key = (x, b) := by
  cases b with
  | true =>
    have hx := h1 rfl
    obtain ⟨y, hy, hk⟩ := hp.hit.1 rfl
    rw [hx] at hy; cases hy
    refine getR_hit hx hk fun j y hj hy he => ?_
    have := plc_left h hp hy hj
    rw [he, ltB_irrefl] at this; cases this
  | false =>
    rw [h2 rfl]
    refine getR_miss fun j y hy he => ?_
    rcases Nat.lt_or_ge j i with hj | hj
    · have := plc_left h hp hy hj
      rw [he, ltB_irrefl] at this; cases this
    · by_cases hji : j = i
      · subst hji
        have := hp.hit.2 ⟨y, hy, he⟩
        cases this
      · obtain ⟨z, hz⟩ : ∃ z, l[i]? = some z := ⟨_, List.getElem?_eq_getElem (by have := (List.getElem?_eq_some_iff.1 hy).1; omega)⟩
        have h3 := plc_right h hp hz (Nat.le_refl _)
        have h4 := asc_lt h hz hy (by omega)
        rw [he, h3] at h4; cases h4
theorem hp_ge : ∀ s p : List UInt8, Lib.hasPrefix s p = true → ltB s p = false
  | s, [], _ => ltB_nil' s
  | [], a :: p, h => by simp [Lib.hasPrefix] at h
  | b :: s, a :: p, h => by
    simp only [Lib.hasPrefix, List.isPrefixOf, Bool.and_eq_true, beq_iff_eq] at h
    obtain ⟨rfl, h⟩ := h
    rw [ltB_cons, hp_ge s p h]
    simp
theorem hp_mid : ∀ y z p : List UInt8, ltB y p = false → ltB y z = true → Lib.hasPrefix z p = true → Lib.hasPrefix y p = true
  | y, z, [], _, _, _ => by simp [Lib.hasPrefix]
  | y, [], a :: p, _, _, h => by simp [Lib.hasPrefix] at h
  | [], z, a :: p, h, _, _ => by rw [ltB_nil] at h; cases h
  | b :: y, c :: z, a :: p, h1, h2, h3 => by
    simp only [Lib.hasPrefix, List.isPrefixOf, Bool.and_eq_true, beq_iff_eq] at h3 ⊢
    obtain ⟨rfl, h3⟩ := h3
    rw [ltB_cons, Bool.or_eq_false_iff, decide_eq_false_iff_not, Bool.and_eq_false_iff] at h1
    rw [ltB_cons, Bool.or_eq_true, decide_eq_true_eq, Bool.and_eq_true, beq_iff_eq] at h2
    rcases h2 with h2 | ⟨he, h2⟩
    · exact absurd h2 h1.1
    · refine ⟨he.symm, hp_mid y z p ?_ h2 h3⟩
      rcases h1.2 with h4 | h4
      · rw [he] at h4; simp at h4
      · exact h4
theorem tw_filter {p : List UInt8} : ∀ D : List VRow, ascB D = true → (∀ y ∈ D, ltB y.key p = false) → D.filter (hasP p) = D.takeWhile (hasP p)
  | [], _, _ => rfl
  | y :: D, ha, hg => by
    have hD : ascB D = true := by
      cases D with
      | nil => rfl
      | cons z D => rw [ascB, Bool.and_eq_true] at ha; exact ha.2
    by_cases hy : hasP p y = true
    · rw [List.filter_cons_of_pos hy, List.takeWhile_cons_of_pos hy, tw_filter D hD (fun z hz => hg z (by simp [hz]))]
    · rw [List.filter_cons_of_neg hy, List.takeWhile_cons_of_neg hy, List.filter_eq_nil_iff]
      intro z hz hc
      obtain ⟨j, hj⟩ := List.getElem?_of_mem hz
      have := asc_lt (i := 0) (j := j + 1) ha rfl (by rw [List.getElem?_cons_succ]; exact hj) (by omega)
      exact hy (hp_mid _ _ _ (hg y (by simp)) this hc)
theorem ascB_drop {l : List VRow} (h : ascB l = true) (i : Nat) : ascB (l.drop i) = true := (ascB_iff _).2 fun k x y hx hy => by
  rw [List.getElem?_drop] at hx hy
  exact (ascB_iff _).1 h (i + k) x y hx hy
theorem scan_eq {l : List VRow} {p : List UInt8} {i : Nat} {b : Bool} (h : ascB l = true) (hp : Plc l p i b) (most : Int) : scanP p most (l.drop i) = scanR p most l := by
  unfold scanP scanR
  congr 1
  have e : l.filter (hasP p) = (l.take i).filter (hasP p) ++ (l.drop i).filter (hasP p) := by rw [← List.filter_append, List.take_append_drop]
  have e1 : (l.take i).filter (hasP p) = [] := by
    rw [List.filter_eq_nil_iff]
    intro y hy hc
    obtain ⟨j, hj⟩ := List.getElem?_of_mem hy
    rw [List.getElem?_take] at hj
    split at hj
    · have h1 := plc_left h hp hj (by assumption)
      rw [hp_ge _ _ hc] at h1; cases h1
    · cases hj
  rw [e, e1, List.nil_append]
  exact (tw_filter _ (ascB_drop h i) fun y hy => by
    obtain ⟨j, hj⟩ := List.getElem?_of_mem hy
    rw [List.getElem?_drop] at hj
    exact plc_right h hp hj (by omega)).symm
theorem place_ex {f : VRow → Int} (x : VRow) : ∀ V : List VRow, ∃ e, (e = 0 ∨ ∃ y, V[e - 1]? = some y ∧ f y < f x) ∧ (V.length ≤ e ∨ ∃ y, V[e]? = some y ∧ f x ≤ f y)
  | [] => ⟨0, .inl rfl, .inl (Nat.le_refl _)⟩
  | y :: V => by
    by_cases h : f x ≤ f y
    · exact ⟨0, .inl rfl, .inr ⟨y, rfl, h⟩⟩
    · obtain ⟨e, h1, h2⟩ := place_ex x V
      refine ⟨e + 1, .inr ?_, ?_⟩
      · rcases h1 with rfl | ⟨z, hz, hlt⟩
        · exact ⟨y, rfl, by omega⟩
        · by_cases h0 : e = 0
          · subst h0; exact ⟨y, rfl, by omega⟩
          · obtain ⟨e', rfl⟩ : ∃ e', e = e' + 1 := ⟨e - 1, by omega⟩
            exact ⟨z, hz, hlt⟩
      · rcases h2 with h2 | ⟨z, hz, hle⟩
        · left; simpa using h2
        · exact .inr ⟨z, by rw [List.getElem?_cons_succ]; exact hz, hle⟩
theorem sorted_ex {f : VRow → Int} : ∀ l : List VRow, ∃ s, SortedF f s ∧ SameF f s l ∧ s.length = l.length
  | [] => ⟨[], List.Pairwise.nil, SameF.refl _, rfl⟩
  | x :: l => by
    obtain ⟨s, h1, h2, h5⟩ := sorted_ex (f := f) l
    obtain ⟨e, h3, h4⟩ := place_ex (f := f) x s
    have h := Merged.one e h1 h3 h4
    exact ⟨_, h.sorted, h.same.trans ((SameF.refl [x]).append h2), by rw [h.len, h5]; simp [Nat.add_comm]⟩
/-! of a good view -/
theorem vrows_eq {w w' : World} {e : Ending} {s s' : List VRow} (h : VRowsRet w w' e s) (he : s = s') : VRowsRet w w' e s' := he ▸ h
theorem pget_good (v : Vw) (hv : ascB v.rows = true) (key : List UInt8) (a : Option Addr) (cap : Nat) (w : World) (hr : VRowsAt w a v.rows) (hl : v.rows.length ≤ 1000000) :
    Calls Try.prog 11 #[.agg #[.int .i64 v.next, .slice a v.rows.length cap], .string (str key)] w fun e w' => e = .returned (.tuple #[rowA (getR v.rows key).1, .bool (getR v.rows key).2]) ∧ More w w' := by
  refine (pget_any v key a cap w hr hl).mono ?_
  rintro e w' hs
  obtain ⟨x, b, rfl, hm, i, hp, h1, h2⟩ := hs.out
  rw [plc_get hv hp h1 h2]
  exact ⟨rfl, hm⟩
theorem pscan_good (v : Vw) (hv : ascB v.rows = true) (p : List UInt8) (most : Int) (a : Option Addr) (cap : Nat) (w : World) (hr : VRowsAt w a v.rows) (hl : v.rows.length ≤ 1000000) (hlc : v.rows.length ≤ cap) (hcm : cap ≤ maxLen) (hp : p.length ≤ maxLen) (hf : ∀ x ∈ v.rows, x.key.length ≤ maxLen) :
    Calls Try.prog 15 #[.agg #[.int .i64 v.next, .slice a v.rows.length cap], .string (str p), .int .i64 most] w fun x w' => VRowsRet w w' x (scanR p most v.rows) := by
  refine (pscan_any v p most a cap w hr hl hlc (by unfold maxLen at hcm; omega) hp hf).mono ?_
  rintro e w' hs
  obtain ⟨i, b, h1, h2⟩ := hs.out
  exact vrows_eq h2 (scan_eq hv h1 most)
theorem snc_eq {w w' : World} {e : Ending} {l S : List VRow} (h : SncRet w w' e l) (h1 : SortedF VRow.offset S) (h2 : SameF VRow.offset S l) : VRowsRet w w' e S := by
  obtain ⟨s, g1, g2, g3⟩ := h.out
  exact vrows_eq g1 (sorted_unique_f g2 h1 (g3.trans h2.symm))
end Go.Proofs.Ytlanghikmccmbaa
/- ViewLooks: the walk. -/
namespace Go.Proofs.Ytlanghikmccmbaa
open Go.ChangeShapes Go.WideShapes Go.ChangeAt Go.RowKit
set_option linter.unusedVariables false
set_option linter.unusedSimpArgs false
theorem cls_any' (w : World) (L : List (Array Obj)) (n : Nat) : ∃ m : Ext, wd w L n = wd w [m.e] m.n := by
  obtain ⟨e, k, h⟩ := more_wd w L n
  exact ⟨⟨e, k⟩, h⟩
structure RowsIs (w w' : World) (e : Ending) (K : Nat) (rows : List VRow) : Prop where
  out : ∃ a c, e = .returned (.slice a K c) ∧ VRowsAt w' a rows ∧ More w w'
theorem rowsis_of {w w' : World} {e : Ending} {K : Nat} {rows : List VRow} (hK : rows.length = K) (h : VRowsRet w w' e rows) : RowsIs w w' e K rows := by
  subst hK
  obtain ⟨a, c, h1, h2, h3, _⟩ := h.out
  exact ⟨a, c, h1, h2, h3⟩
structure VwIsC (w w' : World) (x : Ending) (nx : Int) (N : Nat) (rows : List VRow) : Prop where
  out : ∃ a c, x = .returned (.agg #[.int .i64 nx, .slice a N c]) ∧ VRowsAt w' a rows ∧ More w w' ∧ N ≤ c ∧ c ≤ maxLen
theorem vwisc_of {w w' : World} {x : Ending} {v : Vw} {nx : Int} {N : Nat} (h1 : v.next = nx) (h2 : v.rows.length = N) (h : VwOneC w w' x v) : VwIsC w w' x nx N v.rows := by
  subst h1 h2
  exact ⟨h.out⟩
theorem vrow_eqs (k v : List UInt8) (o t : Int) (W : World) :
    (binOp .eql 26 (.agg #[.string (str k), .string (str v), .int .i64 o, .int .i64 t]) (.agg #[.string (str k), .string (str v), .int .i64 o, .int .i64 t])).run Try.prog W = .ok (.bool true) W := by
  go_simp
/-- What the walk asks of the functions that the law calls. -/
structure LooksOk (w : World) (a : Option Addr) (cap N : Nat) (nx : Int) (rows : List VRow) (a2 : Option Addr) (cap2 M : Nat) (nu : Int) (rows2 : List VRow) (ak : List UInt8) (ao at_ : Int) (G : VRow × Bool) (S1 : List VRow) (K1 : Nat) (S2 : List VRow) (K2 : Nat) (sb : Bool) : Prop where
  own : ∀ W, More w W → Calls Try.prog 10 #[.agg #[.int .i64 nx, .slice a N cap]] W fun x w' => VwIsC W w' x nx N rows
  get : ∀ W a' c', VRowsAt W a' rows → Calls Try.prog 11 #[.agg #[.int .i64 nx, .slice a' N c'], .string (str ak)] W fun e w' => e = .returned (.tuple #[rowA G.1, .bool G.2]) ∧ More W w'
  rget : ∀ W, More w W → Calls Try.prog 12 #[.agg #[.int .i64 nx, .slice a N cap], .string (str ak)] W fun e w' => e = .returned (.tuple #[rowA G.1, .bool G.2]) ∧ More W w'
  scan : ∀ W a' c', VRowsAt W a' rows → N ≤ c' → c' ≤ maxLen → Calls Try.prog 15 #[.agg #[.int .i64 nx, .slice a' N c'], .string (str ak), .int .i64 at_] W fun e w' => RowsIs W w' e K1 S1
  rscan : ∀ W, More w W → Calls Try.prog 16 #[.agg #[.int .i64 nx, .slice a N cap], .string (str ak), .int .i64 at_] W fun e w' => RowsIs W w' e K1 S1
  as1 : ∀ W a' c', VRowsAt W a' S1 → Calls Try.prog 14 #[.slice a' K1 c'] W fun e w' => RowsIs W w' e K1 S1
  same1 : ∀ W a1 c1 a2 c2, VRowsAt W a1 S1 → VRowsAt W a2 S1 → Calls Try.prog 13 #[.slice a1 K1 c1, .slice a2 K1 c2] W fun e w' => e = .returned (.bool true) ∧ More W w'
  since : ∀ W a' c', VRowsAt W a' rows → Calls Try.prog 17 #[.agg #[.int .i64 nx, .slice a' N c'], .int .i64 ao] W fun e w' => RowsIs W w' e K2 S2
  rsince : ∀ W, More w W → Calls Try.prog 18 #[.agg #[.int .i64 nx, .slice a N cap], .int .i64 ao] W fun e w' => RowsIs W w' e K2 S2
  as2 : ∀ W a' c', VRowsAt W a' S2 → Calls Try.prog 14 #[.slice a' K2 c'] W fun e w' => RowsIs W w' e K2 S2
  same2 : ∀ W a1 c1 a2 c2, VRowsAt W a1 S2 → VRowsAt W a2 S2 → Calls Try.prog 13 #[.slice a1 K2 c1, .slice a2 K2 c2] W fun e w' => e = .returned (.bool true) ∧ More W w'
  own2 : ∀ W, More w W → Calls Try.prog 10 #[.agg #[.int .i64 nu, .slice a2 M cap2]] W fun x w' => VwIsC W w' x nu M rows2
  vsame : ∀ W a1 c1 a2 c2, VRowsAt W a1 rows → VRowsAt W a2 rows2 → Calls Try.prog 19 #[.agg #[.int .i64 nx, .slice a1 N c1], .agg #[.int .i64 nu, .slice a2 M c2]] W fun e w' => e = .returned (.bool sb) ∧ More W w'
  rsame : ∀ W, More w W → Calls Try.prog 20 #[.agg #[.int .i64 nx, .slice a N cap], .agg #[.int .i64 nu, .slice a2 M cap2]] W fun e w' => e = .returned (.bool sb) ∧ More W w'
theorem looks_ok (v u : Vw) (hv : ascB v.rows = true) (a a2 : Option Addr) (cap cap2 : Nat) (ak : List UInt8) (ao at_ : Int) (w : World) (hr : VRowsAt w a v.rows) (hr2 : VRowsAt w a2 u.rows) (hf : ∀ x ∈ v.rows, x.key.length ≤ maxLen) (h60 : v.rows.length ≤ 60) (h60' : u.rows.length ≤ 60) (hk : ak.length ≤ 200) :
    ∃ S1 S2, LooksOk w a cap v.rows.length v.next v.rows a2 cap2 u.rows.length u.next u.rows ak ao at_ (getR v.rows ak) S1 S1.length S2 S2.length (decide (v = u)) := by
  obtain ⟨S2, s1, s2, s3⟩ := sorted_ex (f := VRow.offset) (keepR (fun x => decide (x.offset < ao)) v.rows)
  have hS1 : (scanR ak at_ v.rows).length ≤ 60 := by
    unfold scanR
    rw [List.length_take]
    have := List.length_filter_le (hasP ak) v.rows
    omega
  have hS2 : S2.length ≤ 60 := by rw [s3]; exact Nat.le_trans (keepR_len _ _) h60
  have hkm : ak.length ≤ maxLen := by unfold maxLen; omega
  have hm : ∀ n : Nat, n ≤ 60 → n ≤ maxLen := fun n h => by unfold maxLen; omega
  refine ⟨scanR ak at_ v.rows, S2, ?_⟩
  constructor
  · exact fun W hW => (ownc_any v a cap W (hr.more hW) (by omega)).mono fun e w' h => vwisc_of rfl rfl h
  · exact fun W a' c' h => pget_good v hv ak a' c' W h (by omega)
  · exact fun W hW => rget36_any v ak a cap W (hr.more hW) (hm _ h60)
  · exact fun W a' c' h h1 h2 => (pscan_good v hv ak at_ a' c' W h (by omega) h1 h2 hkm hf).mono fun e w' h => rowsis_of rfl h
  · exact fun W hW => (rscan_any v ak at_ a cap W (hr.more hW) (by omega) hkm hf).mono fun e w' h => rowsis_of rfl h
  · exact fun W a' c' h => (as_any _ a' c' W h (by omega)).mono fun e w' h => rowsis_of rfl h
  · exact fun W a1 c1 a2 c2 h1 h2 => (rsamerows_any a1 a2 c1 c2 _ _ W h1 h2 (hm _ hS1) (hm _ hS1)).mono fun e w' h => by rw [decide_eq_true rfl] at h; exact h
  · exact fun W a' c' h => (psince_any v ao a' c' W h (by omega)).mono fun e w' h => rowsis_of rfl (snc_eq h s1 s2)
  · exact fun W hW => (rsince_any v ao a cap W (hr.more hW) (by omega)).mono fun e w' h => rowsis_of rfl (snc_eq h s1 s2)
  · exact fun W a' c' h => (as_any _ a' c' W h (by omega)).mono fun e w' h => rowsis_of rfl h
  · exact fun W a1 c1 a2 c2 h1 h2 => (rsamerows_any a1 a2 c1 c2 _ _ W h1 h2 (hm _ hS2) (hm _ hS2)).mono fun e w' h => by rw [decide_eq_true rfl] at h; exact h
  · exact fun W hW => (ownc_any u a2 cap2 W (hr2.more hW) (by omega)).mono fun e w' h => vwisc_of rfl rfl h
  · exact fun W a1 c1 a2 c2 h1 h2 => pvsame_any v u a1 a2 c1 c2 W h1 h2 (hm _ h60) (hm _ h60')
  · exact fun W hW => rvsame_any v u a a2 cap cap2 W (hr.more hW) (hr2.more hW) (hm _ h60) (hm _ h60')
end Go.Proofs.Ytlanghikmccmbaa
