/- dump: first. -/
import Derived.Test.YtejokhgabcldhaaDoorNI
namespace Go.Proofs.YtejokhgabcldhaaDoor
open Go.ChangeShapes Go.WideShapes Go.ChangeAt Go.RowKit
set_option linter.unusedVariables false
set_option linter.unusedSimpArgs false

/-- Numbers that can be told. -/
structure NumFit (n : Int) : Prop where
  a : -1 ≤ n
  b : n ≤ 4611686018427387910
structure BatFit (b : Bat) : Prop where
  h1 : NumFit b.base
  h2 : NumFit b.count
  h3 : NumFit b.producer
  h4 : NumFit b.epoch
  h5 : NumFit b.seq
theorem batFit_of {b : Bat} (h : batNum b = 0) : BatFit b := by
  obtain ⟨q1, q2, q3, q4, q5, q6, q7, q8, q9, q10, q11⟩ := batNum_ok h
  exact ⟨⟨by omega, by omega⟩, ⟨by omega, by omega⟩, ⟨by omega, by omega⟩, ⟨by omega, by omega⟩, ⟨by omega, by omega⟩⟩
theorem numFit_len {n : Int} (h : NumFit n) : (digN n).length ≤ 20 := digN_len h.a (by have := h.b; omega)
set_option maxRecDepth 100000 in
set_option maxHeartbeats 3200000 in
theorem first_any (b : Bat) (a : Option Addr) (cap : Nat) (k : Int) (w : World) (hl : b.recs.length ≤ maxLen) (hf : BatFit b) (hk : NumFit k) :
    Calls Tryd.prog 30 #[.agg #[.int .i64 b.base, .int .i64 b.count, .int .i64 b.producer, .int .i64 b.epoch, .int .i64 b.seq, .slice a b.recs.length cap], .int .i64 k] w fun x w' => x = .returned (.string (str (firstLine b k))) ∧ More w w' := by
  have HFL := Lib.hid (show firstLine b k = joinC 32 [batWord, digN b.base, digN b.count, digN b.producer, digN b.epoch, digN b.seq, digN k] from rfl)
  obtain ⟨base, count, producer, epoch, seq, recs⟩ := b
  obtain ⟨g1, g2, g3, g4, g5⟩ := hf
  dsimp only at *
  unfold maxLen at hl
  have l1 := numFit_len g1
  have l2 := numFit_len g2
  have l3 := numFit_len g3
  have l4 := numFit_len g4
  have l5 := numFit_len g5
  have l6 := numFit_len hk
  have H1 := Lib.hid (fun W => dig_any base g1.a g1.b W)
  have H2 := Lib.hid (fun W => dig_any count g2.a g2.b W)
  have H3 := Lib.hid (fun W => dig_any producer g3.a g3.b W)
  have H4 := Lib.hid (fun W => dig_any epoch g4.a g4.b W)
  have H5 := Lib.hid (fun W => dig_any seq g5.a g5.b W)
  have H6 := Lib.hid (fun W => dig_any k hk.a hk.b W)
  have hj : (joinC 32 [batWord, digN base, digN count, digN producer, digN epoch, digN seq, digN k]).length ≤ 1000000000 := by simp [joinC, batWord]; omega
  have HS := Lib.hid (fun a W (h : StrsAt W a [batWord, digN base, digN count, digN producer, digN epoch, digN seq, digN k]) => HFL.out ▸ line_any a 7 [batWord, digN base, digN count, digN producer, digN epoch, digN seq, digN k] W h (by show 7 ≤ 7; omega) (by show 7 ≤ _; omega) hj)
  clear l1 l2 l3 l4 l5 l6 g1 g2 g3 g4 g5 hk hj HFL
  refine calls_wd ?_
  go_enter Tryd.func30, Tryd.ntmps30
  go_wp2
  refine wp_region_mix [0, 1, 3, 4, 6, 7, 9, 10, 12, 13, 15] [2, 5, 8, 11, 14, 16, 17, 18, 19] [true, true, false, true, true, false, true, true, false, true, true, false, true, true, false, true] [false, false, true, false, false, true, false, false, true, false, false, true, false, false, true, false, true, true, true, true] ⟨rfl, rfl⟩ (by kernel_rfl) (by kernel_rfl) (fun _ _ d _ _ h => by cases d <;> exact h) ?_
  apply Exists.intro
  refine ⟨?_, ?_⟩
  · intro E
    simp only [sel_t, sel_f, sel_n]
    repeat (go_big_quiet_step ((fail)))
    exact wpQuiet_nil rfl
  simp only [sel_t, sel_f, sel_n, loudly_cons, loudly_nil]
  go_wp2_with (first | (go_at_call 34; ((with_reducible refine (H1.out _).mono ?_); rintro e w1 ⟨rfl, x1, n1, rfl⟩)))
  refine ⟨over_cons _ (over_refl _ _ _), ?_⟩
  rw [loudly_cons]
  go_wp2_with (first | (go_at_call 34; ((with_reducible refine (H2.out _).mono ?_); rintro e w1 ⟨rfl, x2, n2, rfl⟩)))
  refine ⟨over_cons _ (over_cons _ (over_refl _ _ _)), ?_⟩
  rw [loudly_cons]
  go_wp2_with (first | (go_at_call 34; ((with_reducible refine (H3.out _).mono ?_); rintro e w1 ⟨rfl, x3, n3, rfl⟩)))
  refine ⟨over_cons _ (over_cons _ (over_cons _ (over_refl _ _ _))), ?_⟩
  rw [loudly_cons]
  go_wp2_with (first | (go_at_call 34; ((with_reducible refine (H4.out _).mono ?_); rintro e w1 ⟨rfl, x4, n4, rfl⟩)))
  refine ⟨over_cons _ (over_cons _ (over_cons _ (over_cons _ (over_refl _ _ _)))), ?_⟩
  rw [loudly_cons]
  go_wp2_with (first | (go_at_call 34; ((with_reducible refine (H5.out _).mono ?_); rintro e w1 ⟨rfl, x5, n5, rfl⟩)))
  refine ⟨over_cons _ (over_cons _ (over_cons _ (over_cons _ (over_cons _ (over_refl _ _ _))))), ?_⟩
  rw [loudly_cons]
  go_wp2_with (first | (go_at_call 34; ((with_reducible refine (H6.out _).mono ?_); rintro e w1 ⟨rfl, x6, n6, rfl⟩)))
  refine ⟨over_cons _ (over_cons _ (over_cons _ (over_cons _ (over_cons _ (over_cons _ (over_refl _ _ _)))))), ?_⟩
  rw [loudly_cons]
  go_wp2
  refine ⟨over_cons _ (over_cons _ (over_cons _ (over_cons _ (over_cons _ (over_cons _ (over_cons _ (over_refl _ _ _))))))), ?_⟩
  rw [loudly_cons]
  go_wp2_with (first | (go_at_call 33; refine (HS.out _ _ (lit_strs w _ _ _ _ _ rfl)).mono ?_; rintro e w1 ⟨rfl, x7, n7, rfl⟩))
  refine ⟨over_cons _ (over_cons _ (over_cons _ (over_cons _ (over_cons _ (over_cons _ (over_cons _ (over_cons _ (over_refl _ _ _)))))))), ?_⟩
  rw [loudly_cons]
  go_wp2
  refine ⟨over_cons _ (over_cons _ (over_cons _ (over_cons _ (over_cons _ (over_cons _ (over_cons _ (over_cons _ (over_refl _ _ _)))))))), ?_⟩
  rw [loudly_nil]
  go_wp2
  go_ret
  exact ⟨rfl, more_wd _ _ _⟩
end Go.Proofs.YtejokhgabcldhaaDoor
/- dump, plain: how long texts are; the batches one by one. -/
namespace Go.Proofs.YtejokhgabcldhaaDoor
open Go.RowKit
set_option linter.unusedVariables false
set_option linter.unusedSimpArgs false

theorem joinC_len (c : UInt8) : ∀ ws : List (List UInt8), (joinC c ws).length ≤ (ws.map (fun w => w.length + 1)).sum
  | [] => Nat.zero_le _
  | [w] => by rw [joinC]; simp
  | w :: v :: ws => by
    have ih := joinC_len c (v :: ws)
    rw [joinC_cons c w (by simp), List.map_cons, List.sum_cons, List.length_append, List.length_cons]; omega
theorem recLine_len {r : Rec} (h : RecFit r) : (recLine r).length ≤ 6000100 := by
  obtain ⟨h1, h2, h3, h4, h5, h6⟩ := h
  have l1 := digN_len h1 (by omega)
  have l2 := digN_len h3 (by omega)
  have q1 := quote_len r.key
  have q2 := quote_len r.value
  have := joinC_len 32 (recWords r)
  unfold recLine
  refine Nat.le_trans this ?_
  unfold recWords recTail recWord
  split
  · simp; omega
  · split <;> (simp; omega)
theorem firstLine_len {b : Bat} (h : BatFit b) {n : Int} (h1 : -1 ≤ n) (h2 : n ≤ 4611686018427387910) : (firstLine b n).length ≤ 200 := by
  obtain ⟨⟨a1, a2⟩, ⟨b1, b2⟩, ⟨c1, c2⟩, ⟨d1, d2⟩, ⟨e1, e2⟩⟩ := h
  have l1 := digN_len a1 (by omega)
  have l2 := digN_len b1 (by omega)
  have l3 := digN_len c1 (by omega)
  have l4 := digN_len d1 (by omega)
  have l5 := digN_len e1 (by omega)
  have l6 := digN_len h1 (by omega)
  refine Nat.le_trans (joinC_len 32 (firstWords b n)) ?_
  unfold firstWords batWord
  simp; omega
theorem batLines_each {b : Bat} (h : batCheck b = 0) : ∀ s ∈ batLines b, s.length ≤ 6000100 := by
  obtain ⟨c1, c2, c3⟩ := batCheck_ok h
  have h32 := (batNum_ok c1).2.2.2.2.2.2.2.2.2.2
  have hc := (batNum_ok c1).2.1
  intro s hs
  unfold batLines at hs
  rcases List.mem_cons.1 hs with rfl | hs
  · have := firstLine_len (batFit_of c1) (n := b.recs.length) (by omega) (by omega); omega
  · obtain ⟨r, hr, rfl⟩ := List.mem_map.1 hs
    exact recLine_len (recFit_of (chk_all _ _ _ c2 r hr))
theorem flat_le (l : List (List UInt8)) (k : Nat) (h : ∀ s ∈ l, s.length ≤ k) : (l.flatMap lineB).length ≤ l.length * (k + 1) := by
  induction l with
  | nil => simp
  | cons s l ih =>
    have h1 := ih (fun x hx => h x (by simp [hx]))
    have h2 := h s (by simp)
    rw [List.flatMap_cons, List.length_append, List.length_cons, Nat.succ_mul]
    unfold lineB at *
    simp at *; omega
theorem batText_len {b : Bat} (h : batCheck b = 0) : ((batLines b).flatMap lineB).length ≤ 198003333 := by
  obtain ⟨c1, c2, c3⟩ := batCheck_ok h
  have h32 := (batNum_ok c1).2.2.2.2.2.2.2.2.2.2
  have hc := (batNum_ok c1).2.1
  have := flat_le (batLines b) 6000100 (batLines_each h)
  rw [batLines_len] at this
  have h2 : (1 + b.recs.length) * (6000100 + 1) ≤ 33 * 6000101 := Nat.mul_le_mul (by omega) (by omega)
  omega
/-- The text of the batches l. -/
def textB (l : List Bat) : List UInt8 := l.flatMap fun b => (batLines b).flatMap lineB
theorem textB_snoc (l : List Bat) (b : Bat) : textB (l ++ [b]) = textB l ++ (batLines b).flatMap lineB := by simp [textB]
theorem textB_len : ∀ (l : List Bat), (∀ b ∈ l, batCheck b = 0) → (textB l).length ≤ 198003333 * l.length
  | [], _ => by simp [textB]
  | b :: l, h => by
    have h1 := textB_len l (fun x hx => h x (by simp [hx]))
    have h2 := batText_len (h b (by simp))
    have e : textB (b :: l) = (batLines b).flatMap lineB ++ textB l := by simp [textB]
    rw [e, List.length_append, List.length_cons]; omega
theorem textGo_bad : ∀ (l : List Bat) (k : Nat) (b : Bat), l[k]? = some b → (∀ x ∈ l.take k, batCheck x = 0) → batCheck b ≠ 0 → textGo l = ([], batCheck b)
  | [], k, b, h, _, _ => by simp at h
  | x :: l, 0, b, h, _, hb => by
    simp at h; subst h
    rw [textGo, if_pos hb]
  | x :: l, k + 1, b, h, hk, hb => by
    rw [List.getElem?_cons_succ] at h
    rw [List.take_succ_cons] at hk
    have h1 := textGo_bad l k b h (fun y hy => hk y (by simp [hy])) hb
    have hx := hk x (by simp)
    rw [textGo, if_neg (by simp [hx]), h1, if_pos hb]
theorem textGo_all {l : List Bat} (h : ∀ b ∈ l, batCheck b = 0) : textGo l = (textB l, 0) := by
  rw [textGo_mk h]
  congr 1
  unfold textB
  rw [List.flatMap_assoc]
theorem textOf_bad {l : List Bat} (hl : l.length ≤ 1000) (k : Nat) (b : Bat) (h : l[k]? = some b) (hk : ∀ x ∈ l.take k, batCheck x = 0) (hb : batCheck b ≠ 0) : textOf l = ([], batCheck b) := by
  unfold textOf; rw [if_neg (by omega)]; exact textGo_bad l k b h hk hb
theorem textOf_all {l : List Bat} (hl : l.length ≤ 1000) (h : ∀ b ∈ l, batCheck b = 0) : textOf l = (textB l, 0) := by
  unfold textOf; rw [if_neg (by omega)]; exact textGo_all h
theorem textOf_long {l : List Bat} (hl : 1000 < l.length) : textOf l = ([], 5) := by
  unfold textOf; rw [if_pos hl]
/-- The first k are sound, and so is the next one. -/
theorem take_ok {α : Type} {p : α → Prop} {l : List α} {k : Nat} {x : α} (h : ∀ y ∈ l.take k, p y) (hx : l[k]? = some x) (hp : p x) : ∀ y ∈ l.take (k + 1), p y := by
  intro y hy
  rw [take_get l k x hx] at hy
  rcases List.mem_append.1 hy with hy | hy
  · exact h y hy
  · simp at hy; subst hy; exact hp

/-! ### numbers, read digit by digit -/
theorem numFold_step {l : List UInt8} {k n : Nat} {c : UInt8} (hc : l[k]? = some c) (h1 : 48 ≤ c.toNat) (h2 : c.toNat ≤ 57) (h3 : n ≤ 461168601842738790) (h : numFold l 0 = numFold (l.drop k) n) : numFold l 0 = numFold (l.drop (k + 1)) (n * 10 + (c.toNat - 48)) := by
  rw [h, drop_at l k c hc, numFold, if_neg (by omega)]
theorem numD_stop {l : List UInt8} {k n : Nat} {c : UInt8} (hc : l[k]? = some c) (hb : c.toNat < 48 ∨ 57 < c.toNat ∨ 461168601842738790 < n) (h : numFold l 0 = numFold (l.drop k) n) : numD l = -1 := by
  unfold numD
  rw [h, drop_at l k c hc, numFold, if_pos hb]
theorem numD_end {l : List UInt8} {k n : Nat} (hk : l.length ≤ k) (h : numFold l 0 = numFold (l.drop k) n) : numD l = (if l = [] ∨ digN (n : Int) ≠ l then (-1 : Int) else (n : Int)) := by
  unfold numD
  rw [h, List.drop_of_length_le hk, numFold]
theorem unq_len : ∀ (n : Nat) (s l : List UInt8), s.length ≤ n → unq s = some l → l.length ≤ s.length
  | _, [], l, _, h => by rw [unq] at h; cases h; simp
  | 0, c :: s, l, hn, h => by simp at hn
  | n + 1, c :: s, l, hn, h => by
    rw [List.length_cons] at hn
    by_cases hc : c = 37
    · subst hc
      match s with
      | [] => rw [unq_short _ (by simp)] at h; cases h
      | [a] => rw [unq_short _ (by simp)] at h; cases h
      | a :: b :: r =>
        by_cases hab : halfB a < 16 ∧ halfB b < 16
        · rw [unq_hex a b r hab.1 hab.2] at h
          cases hr : unq r with
          | none => rw [hr] at h; cases h
          | some x =>
            rw [hr] at h
            simp only [Option.map_some, Option.some.injEq] at h
            subst h
            have := unq_len n r x (by simp at hn ⊢; omega) hr
            simp; omega
        · rw [unq_bad a b r hab] at h; cases h
    · rw [unq_plain hc] at h
      cases hr : unq s with
      | none => rw [hr] at h; cases h
      | some x =>
        rw [hr] at h
        simp only [Option.map_some, Option.some.injEq] at h
        subst h
        have := unq_len n s x (by omega) hr
        simp; omega
theorem unquote_len (s : List UInt8) : (unquote s).1.length ≤ s.length := by
  unfold unquote
  split
  · simp
  · split
    · simp
    · next b hb =>
      split
      · simp
      · exact unq_len _ s b (Nat.le_refl _) hb
theorem joinC_le (c : UInt8) : ∀ (l : List UInt8) (k : Nat), (joinC c ((splitC c l).drop k)).length ≤ l.length := by
  intro l k
  have h : ∀ (ws : List (List UInt8)) (k : Nat), (joinC c (ws.drop k)).length ≤ (joinC c ws).length := by
    intro ws
    induction ws with
    | nil => intro k; simp
    | cons w ws ih =>
      intro k
      cases k with
      | zero => simp
      | succ k =>
        rw [List.drop_succ_cons]
        refine Nat.le_trans (ih k) ?_
        cases ws with
        | nil => simp [joinC]
        | cons v ws => rw [joinC_cons c w (by simp), List.length_append, List.length_cons]; omega
  have := h (splitC c l) k
  rw [joinC_split] at this
  exact this
theorem splitC_each (c : UInt8) : ∀ (l : List UInt8), ∀ w ∈ splitC c l, w.length ≤ l.length
  | [], w, h => by simp [splitC] at h; subst h; simp
  | x :: r, w, h => by
    have ih := splitC_each c r
    rw [splitC] at h
    split at h
    · rcases List.mem_cons.1 h with rfl | h
      · simp
      · have := ih w h; rw [List.length_cons]; omega
    · cases hs : splitC c r with
      | nil => exact absurd hs (splitC_ne c r)
      | cons v vs =>
        rw [hs] at h ih
        rcases List.mem_cons.1 h with rfl | h
        · have := ih v (by simp); simp; omega
        · have := ih w (by simp [h]); rw [List.length_cons]; omega
theorem splitC_len_le (c : UInt8) : ∀ l : List UInt8, (splitC c l).length ≤ l.length + 1
  | [] => by simp [splitC]
  | x :: r => by
    have ih := splitC_len_le c r
    rw [splitC]
    split
    · simp; exact ih
    · cases hs : splitC c r with
      | nil => exact absurd hs (splitC_ne c r)
      | cons v vs => rw [hs] at ih; simp at ih ⊢; omega
end Go.Proofs.YtejokhgabcldhaaDoor
