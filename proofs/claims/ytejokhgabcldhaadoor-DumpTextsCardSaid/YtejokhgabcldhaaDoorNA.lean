/- dump, plain: quoted texts, digits, lines. -/
import Derived.Test.YtejokhgabcldhaaDoorMC
import Derived.Test.YtejokhgabcldhaaDoorME
namespace Go.Proofs.YtejokhgabcldhaaDoor
open Go.RowKit
set_option linter.unusedVariables false
set_option linter.unusedSimpArgs false

/-! ### quoting -/
def plainB (c : UInt8) : Bool := decide (32 < c.toNat) && (decide (c.toNat < 127) && !decide (c.toNat = 37))
def hexB (n : Nat) : UInt8 := if n < 10 then UInt8.ofNat (48 + n) else UInt8.ofNat (87 + n)
def quoteC (c : UInt8) : List UInt8 := if plainB c then [c] else [37, hexB (c.toNat / 16), hexB (c.toNat % 16)]
def quote (l : List UInt8) : List UInt8 := if l = [] then [37, 45] else l.flatMap quoteC
def halfB (c : UInt8) : Nat := if 48 ≤ c.toNat ∧ c.toNat ≤ 57 then c.toNat - 48 else if 97 ≤ c.toNat ∧ c.toNat ≤ 102 then c.toNat - 87 else 16
def unq : List UInt8 → Option (List UInt8)
  | [] => some []
  | [c] => if c = 37 then none else some [c]
  | [c, d] => if c = 37 then none else (unq [d]).map (c :: ·)
  | c :: a :: b :: r => if c = 37 then (if halfB a < 16 ∧ halfB b < 16 then (unq r).map (UInt8.ofNat (16 * halfB a + halfB b) :: ·) else none) else (unq (a :: b :: r)).map (c :: ·)
def unquote (s : List UInt8) : List UInt8 × Bool :=
  if s = [37, 45] then ([], true) else
  match unq s with
  | none => ([], false)
  | some b => if b = [] ∨ quote b ≠ s then ([], false) else (b, true)
theorem hexB_nat (n : Nat) (h : n < 16) : (hexB n).toNat = if n < 10 then 48 + n else 87 + n := by
  unfold hexB; split <;> (simp; omega)
theorem halfB_hex (n : Nat) (h : n < 16) : halfB (hexB n) = n := by
  unfold halfB; rw [hexB_nat n h]
  by_cases h10 : n < 10
  · rw [if_pos h10, if_pos (by omega)]; omega
  · rw [if_neg h10, if_neg (by omega), if_pos (by omega)]; omega
theorem halfB_le (c : UInt8) : halfB c ≤ 16 := by unfold halfB; split <;> (try split) <;> omega
theorem plain_ne {c : UInt8} (h : plainB c = true) : c ≠ 37 := by
  rintro rfl; simp [plainB] at h
theorem unq_plain {c : UInt8} (h : c ≠ 37) (r : List UInt8) : unq (c :: r) = (unq r).map (c :: ·) := by
  match r with
  | [] => simp [unq, h]
  | [d] => simp [unq, h]
  | a :: b :: r => rw [unq, if_neg h]
theorem unq_hex (a b : UInt8) (r : List UInt8) (ha : halfB a < 16) (hb : halfB b < 16) : unq (37 :: a :: b :: r) = (unq r).map (UInt8.ofNat (16 * halfB a + halfB b) :: ·) := by rw [unq, if_pos rfl, if_pos ⟨ha, hb⟩]
theorem unq_bad (a b : UInt8) (r : List UInt8) (h : ¬ (halfB a < 16 ∧ halfB b < 16)) : unq (37 :: a :: b :: r) = none := by rw [unq, if_pos rfl, if_neg h]
theorem unq_short (r : List UInt8) (h : r.length < 2) : unq (37 :: r) = none := by
  match r, h with
  | [], _ => rw [unq, if_pos rfl]
  | [_], _ => rw [unq, if_pos rfl]
theorem u8_self (c : UInt8) : UInt8.ofNat (16 * (c.toNat / 16) + c.toNat % 16) = c := by
  rw [Nat.div_add_mod]; exact UInt8.ofNat_toNat
theorem unq_quoteC (c : UInt8) (r : List UInt8) : unq (quoteC c ++ r) = (unq r).map (c :: ·) := by
  unfold quoteC
  have hc := c.toNat_lt
  split
  · next h => exact unq_plain (plain_ne h) r
  · show unq (37 :: hexB _ :: hexB _ :: r) = _
    rw [unq_hex _ _ _ (by rw [halfB_hex _ (by omega)]; omega) (by rw [halfB_hex _ (by omega)]; omega), halfB_hex _ (by omega), halfB_hex _ (by omega), u8_self]
theorem unq_flat : ∀ l : List UInt8, unq (l.flatMap quoteC) = some l
  | [] => rfl
  | c :: l => by rw [List.flatMap_cons, unq_quoteC, unq_flat l]; rfl
theorem quoteC_ne (c : UInt8) : quoteC c ≠ [] := by unfold quoteC; split <;> simp
theorem flat_ne {l : List UInt8} (h : l ≠ []) : l.flatMap quoteC ≠ [] := by
  cases l with
  | nil => exact absurd rfl h
  | cons c l => rw [List.flatMap_cons]; simp [quoteC_ne]
theorem halfB_45 : halfB 45 = 16 := by decide
theorem unq_none : unq [37, 45] = none := unq_short _ (by decide)
theorem unquote_quote (l : List UInt8) : unquote (quote l) = (l, true) := by
  unfold unquote
  by_cases h : l = []
  · subst h; rfl
  · have hq : quote l = l.flatMap quoteC := by unfold quote; rw [if_neg h]
    rw [hq]
    have hne : l.flatMap quoteC ≠ [37, 45] := by
      intro he
      have := unq_flat l
      rw [he, unq_none] at this
      cases this
    rw [if_neg hne, unq_flat]
    simp only
    rw [if_neg (by rw [hq]; simp [h])]
theorem unquote_ok {s l : List UInt8} (h : unquote s = (l, true)) : quote l = s := by
  unfold unquote at h
  split at h
  · next hs => cases h; rw [hs]; rfl
  · split at h
    · cases h
    · split at h
      · cases h
      · next b _ hb => cases h; by_cases hq : quote l = s
                       · exact hq
                       · exact absurd (.inr hq) hb
/-- What a quoted text holds: no blank, no line's end. -/
def wordB (c : UInt8) : Bool := decide (32 < c.toNat) && decide (c.toNat < 127)
theorem hexB_word (n : Nat) (h : n < 16) : wordB (hexB n) = true := by
  unfold wordB; rw [hexB_nat n h]; split <;> simp <;> omega
theorem quoteC_word (c : UInt8) : ∀ x ∈ quoteC c, wordB x = true := by
  have hc := c.toNat_lt
  unfold quoteC
  split
  · next h => intro x hx; simp at hx; subst hx; simp only [plainB, wordB, Bool.and_eq_true] at h ⊢; exact ⟨h.1, h.2.1⟩
  · intro x hx
    simp at hx
    rcases hx with rfl | rfl | rfl
    · rfl
    · exact hexB_word _ (by omega)
    · exact hexB_word _ (by omega)
theorem quote_word (l : List UInt8) : ∀ x ∈ quote l, wordB x = true := by
  unfold quote
  split
  · intro x hx; simp at hx; rcases hx with rfl | rfl <;> rfl
  · intro x hx
    obtain ⟨c, _, h⟩ := List.mem_flatMap.1 hx
    exact quoteC_word c x h
theorem quoteC_len (c : UInt8) : (quoteC c).length ≤ 3 := by unfold quoteC; split <;> simp
theorem flat_q_len : ∀ l : List UInt8, (l.flatMap quoteC).length ≤ 3 * l.length
  | [] => Nat.zero_le _
  | c :: l => by rw [List.flatMap_cons, List.length_append, List.length_cons]; have := quoteC_len c; have := flat_q_len l; omega
theorem quote_len (l : List UInt8) : (quote l).length ≤ 3 * l.length + 2 := by
  unfold quote; split
  · simp
  · have := flat_q_len l; omega
theorem quote_ne (l : List UInt8) : quote l ≠ [] := by
  unfold quote; split
  · simp
  · next h => exact flat_ne h

/-! ### digits -/
def digs (n : Nat) : List UInt8 := if h : n < 10 then [UInt8.ofNat (48 + n)] else digs (n / 10) ++ [UInt8.ofNat (48 + n % 10)]
termination_by n
decreasing_by omega
theorem digs_small {n : Nat} (h : n < 10) : digs n = [UInt8.ofNat (48 + n)] := by rw [digs, dif_pos h]
theorem digs_big {n : Nat} (h : ¬ n < 10) : digs n = digs (n / 10) ++ [UInt8.ofNat (48 + n % 10)] := by rw [digs, dif_neg h]
def digN (n : Int) : List UInt8 := if n < 0 then 45 :: digs n.natAbs else digs n.toNat
theorem digs_word (n : Nat) : ∀ x ∈ digs n, 48 ≤ x.toNat ∧ x.toNat ≤ 57 := by
  induction n using Nat.strongRecOn with
  | _ n ih =>
    by_cases h : n < 10
    · rw [digs_small h]; intro x hx; simp at hx; subst hx; simp; omega
    · rw [digs_big h]; intro x hx
      rcases List.mem_append.1 hx with hx | hx
      · exact ih (n / 10) (by omega) x hx
      · simp at hx; subst hx; simp; omega
theorem digs_ne (n : Nat) : digs n ≠ [] := by
  by_cases h : n < 10
  · rw [digs_small h]; simp
  · rw [digs_big h]; simp
theorem digs_len : ∀ (k n : Nat), n < 10 ^ (k + 1) → (digs n).length ≤ k + 1
  | 0, n, h => by rw [digs_small (by simpa using h)]; simp
  | k + 1, n, h => by
    by_cases h10 : n < 10
    · rw [digs_small h10]; simp
    · rw [digs_big h10, List.length_append]
      have := digs_len k (n / 10) (by rw [Nat.div_lt_iff_lt_mul (by decide)]; rw [Nat.pow_succ] at h; exact h)
      simp; omega
theorem digN_word {n : Int} : ∀ x ∈ digN n, wordB x = true := by
  unfold digN
  split
  · intro x hx
    rcases List.mem_cons.1 hx with rfl | hx
    · rfl
    · have := digs_word _ x hx; unfold wordB; simp; omega
  · intro x hx
    have := digs_word _ x hx; unfold wordB; simp; omega
theorem digN_len {n : Int} (h1 : -1 ≤ n) (h2 : n ≤ 9223372036854775807) : (digN n).length ≤ 20 := by
  unfold digN
  have h10 : (9223372036854775807 : Nat) < 10 ^ (18 + 1) := by decide
  split
  · have := digs_len 18 n.natAbs (by omega)
    rw [List.length_cons]; omega
  · have := digs_len 18 n.toNat (by omega)
    omega
/-- A number's digits, read one by one. -/
def numFold (l : List UInt8) (n : Nat) : Option Nat :=
  match l with
  | [] => some n
  | c :: r => if c.toNat < 48 ∨ 57 < c.toNat ∨ 461168601842738790 < n then none else numFold r (n * 10 + (c.toNat - 48))
def numD (s : List UInt8) : Int :=
  match numFold s 0 with
  | none => -1
  | some n => if s = [] ∨ digN n ≠ s then -1 else n
theorem numFold_append : ∀ (a b : List UInt8) (n : Nat), numFold (a ++ b) n = (numFold a n).bind fun m => numFold b m
  | [], b, n => rfl
  | c :: a, b, n => by
    rw [List.cons_append, numFold, numFold]
    split
    · rfl
    · exact numFold_append a b _
theorem numFold_digs (n : Nat) (h : n ≤ 4611686018427387909) : numFold (digs n) 0 = some n := by
  induction n using Nat.strongRecOn with
  | _ n ih =>
    by_cases h10 : n < 10
    · rw [digs_small h10, numFold, if_neg (by simp; omega), numFold]
      simp; omega
    · rw [digs_big h10, numFold_append, ih (n / 10) (by omega) (by omega)]
      show numFold [UInt8.ofNat (48 + n % 10)] (n / 10) = _
      rw [numFold, if_neg (by simp; omega), numFold]
      simp; omega
theorem numD_dig {n : Int} (h0 : 0 ≤ n) (h : n ≤ 4611686018427387909) : numD (digN n) = n := by
  have hd : digN n = digs n.toNat := by unfold digN; rw [if_neg (by omega)]
  unfold numD
  rw [hd, numFold_digs _ (by omega)]
  have e : ((n.toNat : Nat) : Int) = n := by omega
  simp only
  rw [e, hd, if_neg (by simp [digs_ne])]
theorem numD_cases (s : List UInt8) : numD s = -1 ∨ (0 ≤ numD s ∧ digN (numD s) = s) := by
  unfold numD
  split
  · exact .inl rfl
  · split
    · exact .inl rfl
    · next n _ h => right; refine ⟨by omega, ?_⟩
                    by_cases hq : digN n = s
                    · exact hq
                    · exact absurd (.inr hq) h
theorem numFold_le : ∀ (l : List UInt8) (n m : Nat), n ≤ 4611686018427387909 → numFold l n = some m → m ≤ 4611686018427387909
  | [], n, m, hn, h => by rw [numFold] at h; cases h; exact hn
  | c :: l, n, m, hn, h => by
    rw [numFold] at h
    split at h
    · cases h
    · next hc => exact numFold_le l _ m (by omega) h
theorem numD_range (s : List UInt8) : -1 ≤ numD s ∧ numD s ≤ 4611686018427387909 := by
  unfold numD
  split
  · omega
  · next n h =>
    have := numFold_le _ _ _ (by decide) h
    split <;> omega

/-! ### splitting -/
def splitC (c : UInt8) : List UInt8 → List (List UInt8)
  | [] => [[]]
  | x :: r => if x = c then [] :: splitC c r else match splitC c r with
    | [] => [[x]]
    | w :: ws => (x :: w) :: ws
def joinC (c : UInt8) : List (List UInt8) → List UInt8
  | [] => []
  | [w] => w
  | w :: ws => w ++ c :: joinC c ws
theorem joinC_cons (c : UInt8) (w : List UInt8) {ws : List (List UInt8)} (h : ws ≠ []) : joinC c (w :: ws) = w ++ c :: joinC c ws := by
  cases ws with
  | nil => exact absurd rfl h
  | cons => rfl
theorem splitC_ne (c : UInt8) (l : List UInt8) : splitC c l ≠ [] := by
  cases l with
  | nil => simp [splitC]
  | cons x r => rw [splitC]; split
                · simp
                · split <;> simp
theorem splitC_word (c : UInt8) : ∀ (w : List UInt8), c ∉ w → splitC c w = [w]
  | [], _ => rfl
  | x :: w, h => by
    rw [List.mem_cons, not_or] at h
    rw [splitC, if_neg (Ne.symm h.1), splitC_word c w h.2]
theorem splitC_at (c : UInt8) : ∀ (w r : List UInt8), c ∉ w → splitC c (w ++ c :: r) = w :: splitC c r
  | [], r, _ => by rw [List.nil_append, splitC, if_pos rfl]
  | x :: w, r, h => by
    rw [List.mem_cons, not_or] at h
    rw [List.cons_append, splitC, if_neg (Ne.symm h.1), splitC_at c w r h.2]
theorem splitC_join (c : UInt8) : ∀ (ws : List (List UInt8)), ws ≠ [] → (∀ w ∈ ws, c ∉ w) → splitC c (joinC c ws) = ws
  | [], h, _ => absurd rfl h
  | [w], _, h => splitC_word c w (h w (by simp))
  | w :: v :: ws, _, h => by
    rw [joinC_cons c w (by simp), splitC_at c w _ (h w (by simp)), splitC_join c (v :: ws) (by simp) (fun x hx => h x (by simp [hx]))]
theorem joinC_split (c : UInt8) : ∀ (l : List UInt8), joinC c (splitC c l) = l
  | [] => rfl
  | x :: r => by
    have ih := joinC_split c r
    rw [splitC]
    split
    · next h => rw [joinC_cons c [] (splitC_ne c r), ih, h]; rfl
    · cases hs : splitC c r with
      | nil => exact absurd hs (splitC_ne c r)
      | cons w ws =>
        rw [hs] at ih
        simp only
        cases ws with
        | nil => rw [joinC] at ih ⊢; rw [ih]
        | cons v ws => rw [joinC_cons c _ (by simp)] at ih ⊢; rw [← ih]; rfl
theorem splitC_mem (c : UInt8) : ∀ (l : List UInt8), ∀ w ∈ splitC c l, c ∉ w
  | [], w, h => by simp [splitC] at h; subst h; simp
  | x :: r, w, h => by
    have ih := splitC_mem c r
    rw [splitC] at h
    split at h
    · rcases List.mem_cons.1 h with rfl | h
      · simp
      · exact ih w h
    · next hx =>
      cases hs : splitC c r with
      | nil => exact absurd hs (splitC_ne c r)
      | cons v vs =>
        rw [hs] at h ih
        rcases List.mem_cons.1 h with rfl | h
        · rw [List.mem_cons, not_or]; exact ⟨Ne.symm hx, ih v (by simp)⟩
        · exact ih w (by simp [h])
end Go.Proofs.YtejokhgabcldhaaDoor
/- dump, plain: texts of batches, and how they are read. -/
namespace Go.Proofs.YtejokhgabcldhaaDoor
open Go.RowKit
set_option linter.unusedVariables false
set_option linter.unusedSimpArgs false

def recWord : List UInt8 := [114, 101, 99, 111, 114, 100]
def batWord : List UInt8 := [98, 97, 116, 99, 104]
def recTail (r : Rec) : List (List UInt8) := if r.dead then [[100], quote r.key] else if r.keyed then [[107], quote r.key, quote r.value] else [[118], quote r.value]
def recWords (r : Rec) : List (List UInt8) := recWord :: digN r.delta :: digN r.time :: recTail r
def recLine (r : Rec) : List UInt8 := joinC 32 (recWords r)
def firstWords (b : Bat) (n : Int) : List (List UInt8) := [batWord, digN b.base, digN b.count, digN b.producer, digN b.epoch, digN b.seq, digN n]
def firstLine (b : Bat) (n : Int) : List UInt8 := joinC 32 (firstWords b n)
def batLines (b : Bat) : List (List UInt8) := firstLine b b.recs.length :: b.recs.map recLine
def batLs (b : Bat) : List (List UInt8) × Int := if batCheck b ≠ 0 then ([], batCheck b) else (batLines b, 0)
def lineB (l : List UInt8) : List UInt8 := l ++ [10]
def textGo : List Bat → List UInt8 × Int
  | [] => ([], 0)
  | b :: l => if batCheck b ≠ 0 then ([], batCheck b) else if (textGo l).2 ≠ 0 then ([], (textGo l).2) else ((batLines b).flatMap lineB ++ (textGo l).1, 0)
def textOf (l : List Bat) : List UInt8 × Int := if 1000 < l.length then ([], 5) else textGo l

theorem word_ne {c : UInt8} (h : wordB c = true) : c ≠ 32 ∧ c ≠ 10 := by
  unfold wordB at h
  simp only [Bool.and_eq_true, decide_eq_true_eq] at h
  constructor <;> (rintro rfl; revert h; decide)
theorem words_no {w : List UInt8} (h : ∀ x ∈ w, wordB x = true) : (32 : UInt8) ∉ w ∧ (10 : UInt8) ∉ w := ⟨fun hx => (word_ne (h _ hx)).1 rfl, fun hx => (word_ne (h _ hx)).2 rfl⟩
theorem recWords_word (r : Rec) : ∀ w ∈ recWords r, ∀ x ∈ w, wordB x = true := by
  intro w hw
  unfold recWords at hw
  rcases List.mem_cons.1 hw with rfl | hw
  · decide
  rcases List.mem_cons.1 hw with rfl | hw
  · exact digN_word
  rcases List.mem_cons.1 hw with rfl | hw
  · exact digN_word
  unfold recTail at hw
  split at hw
  · simp at hw; rcases hw with rfl | rfl
    · decide
    · exact quote_word _
  · split at hw
    · simp at hw; rcases hw with rfl | rfl | rfl
      · decide
      · exact quote_word _
      · exact quote_word _
    · simp at hw; rcases hw with rfl | rfl
      · decide
      · exact quote_word _
theorem firstWords_word (b : Bat) (n : Int) : ∀ w ∈ firstWords b n, ∀ x ∈ w, wordB x = true := by
  intro w hw
  unfold firstWords at hw
  simp only [List.mem_cons, List.not_mem_nil, or_false] at hw
  rcases hw with rfl | rfl | rfl | rfl | rfl | rfl | rfl
  · decide
  all_goals exact digN_word
theorem join_mem (c : UInt8) : ∀ (ws : List (List UInt8)) (x : UInt8), x ∈ joinC c ws → x = c ∨ ∃ w ∈ ws, x ∈ w
  | [], x, h => by simp [joinC] at h
  | [w], x, h => .inr ⟨w, by simp, h⟩
  | w :: v :: ws, x, h => by
    rw [joinC_cons c w (by simp)] at h
    rcases List.mem_append.1 h with h | h
    · exact .inr ⟨w, by simp, h⟩
    · rcases List.mem_cons.1 h with rfl | h
      · exact .inl rfl
      · rcases join_mem c (v :: ws) x h with h | ⟨u, hu, hx⟩
        · exact .inl h
        · exact .inr ⟨u, by simp [hu], hx⟩
theorem no_ten {ws : List (List UInt8)} (h : ∀ w ∈ ws, ∀ x ∈ w, wordB x = true) : (10 : UInt8) ∉ joinC 32 ws := by
  intro hx
  rcases join_mem 32 ws 10 hx with h1 | ⟨w, hw, h1⟩
  · exact absurd h1 (by decide)
  · exact (word_ne (h w hw _ h1)).2 rfl
theorem recLine_ten (r : Rec) : (10 : UInt8) ∉ recLine r := no_ten (recWords_word r)
theorem firstLine_ten (b : Bat) (n : Int) : (10 : UInt8) ∉ firstLine b n := no_ten (firstWords_word b n)
theorem batLines_ten (b : Bat) : ∀ s ∈ batLines b, (10 : UInt8) ∉ s := by
  intro s hs
  rcases List.mem_cons.1 hs with rfl | hs
  · exact firstLine_ten _ _
  · obtain ⟨r, _, rfl⟩ := List.mem_map.1 hs; exact recLine_ten r
theorem split_rec (r : Rec) : splitC 32 (recLine r) = recWords r := splitC_join 32 _ (by simp [recWords]) (fun w hw => (words_no (recWords_word r w hw)).1)
theorem split_first (b : Bat) (n : Int) : splitC 32 (firstLine b n) = firstWords b n := splitC_join 32 _ (by simp [firstWords]) (fun w hw => (words_no (firstWords_word b n w hw)).1)

/-! ### reading a record -/
def recAs (w1 w2 w3 : List UInt8) (a v : List UInt8) : Rec :=
  if w3 = [118] then ⟨numD w1, numD w2, false, [], false, a⟩ else if w3 = [100] then ⟨numD w1, numD w2, true, a, true, []⟩ else ⟨numD w1, numD w2, true, a, false, v⟩
def recOk (w3 : List UInt8) (a v : Bool) : Bool := if w3 = [118] ∨ w3 = [100] then a else a && v
def recOf (s : List UInt8) : Rec × Bool :=
  match splitC 32 s with
  | _ :: w1 :: w2 :: w3 :: w4 :: ws =>
    (recAs w1 w2 w3 (unquote w4).1 (unquote (joinC 32 ws)).1, recOk w3 (unquote w4).2 (unquote (joinC 32 ws)).2 && decide (recLine (recAs w1 w2 w3 (unquote w4).1 (unquote (joinC 32 ws)).1) = s))
  | _ => (Rec.zero, false)
theorem recOf_line {s : List UInt8} (h : (recOf s).2 = true) : recLine (recOf s).1 = s := by
  unfold recOf at h ⊢
  split
  · next hs => rw [hs] at h; simp only [Bool.and_eq_true, decide_eq_true_eq] at h ⊢; exact h.2
  · next hs =>
    split at h
    · next hs2 => exact absurd hs2 (hs _ _ _ _ _ _)
    · simp at h
theorem recOf_back {r : Rec} (h : recCheck r = 0) : recOf (recLine r) = (r, true) := by
  obtain ⟨⟨h1, h2, h3, h4⟩, _, h5, h6⟩ := recCheck_ok h
  unfold recOf
  rw [split_rec]
  have d1 := numD_dig h1 (by omega)
  have d2 := numD_dig h3 (by omega)
  obtain ⟨delta, time, keyed, key, dead, value⟩ := r
  dsimp only at *
  unfold recWords recTail
  cases dead with
  | true =>
    obtain rfl := h6 rfl
    cases keyed with
    | false => exact absurd (h5 rfl).2 (by decide)
    | true =>
      simp only [if_true]
      rw [unquote_quote]
      simp [recAs, recOk, d1, d2]
  | false =>
    cases keyed with
    | true =>
      simp only [if_true, Bool.false_eq_true, if_false]
      rw [show joinC 32 [quote value] = quote value from rfl, unquote_quote, unquote_quote]
      simp [recAs, recOk, d1, d2]
    | false =>
      obtain ⟨rfl, _⟩ := h5 rfl
      simp only [Bool.false_eq_true, if_false]
      rw [unquote_quote]
      simp [recAs, recOk, d1, d2]

/-! ### may a batch be, the rest of its records being small? -/
def nextD (rs : List Rec) : Int := match rs.getLast? with | none => 0 | some r => r.delta + 1
def smallR (d : Int) : Rec := ⟨d, 0, false, [], false, []⟩
def extR : List Rec → Nat → List Rec
  | rs, 0 => rs
  | rs, k + 1 => extR (rs ++ [smallR (nextD rs)]) k
def Bat.put (b : Bat) (rs : List Rec) : Bat := { b with recs := rs }
def mayB (b : Bat) (n : Int) : Bool := decide (0 ≤ n ∧ n ≤ b.count ∧ b.count ≤ 32) && decide (batCheck (b.put (extR b.recs (n.toNat - b.recs.length))) = 0)
theorem extR_len : ∀ (k : Nat) (rs : List Rec), (extR rs k).length = rs.length + k
  | 0, rs => rfl
  | k + 1, rs => by rw [extR, extR_len k]; simp; omega
theorem put_self (b : Bat) : b.put b.recs = b := rfl
theorem put_put (b : Bat) (r s : List Rec) : (b.put r).put s = b.put s := rfl
theorem mayB_full {b : Bat} {n : Int} (h : mayB b n = true) (hn : n.toNat ≤ b.recs.length) : batCheck b = 0 := by
  unfold mayB at h
  simp only [Bool.and_eq_true, decide_eq_true_eq] at h
  have := h.2
  rw [show n.toNat - b.recs.length = 0 by omega] at this
  exact this
theorem batCheck_ok {b : Bat} (h : batCheck b = 0) : batNum b = 0 ∧ chk (-1) b.count b.recs = 0 ∧ (batLay b).length ≤ 8192 := by
  have := batPut_ok (b := b) (l := batLay b) (by unfold batPut; rw [if_neg (by simp [h])])
  exact ⟨this.2.1, this.2.2.1, this.2.2.2⟩
theorem batCheck_mk {b : Bat} (h1 : batNum b = 0) (h2 : chk (-1) b.count b.recs = 0) (h3 : (batLay b).length ≤ 8192) : batCheck b = 0 := by
  unfold batCheck; rw [if_neg (by simp [h1]), if_neg (by simp [h2]), if_neg (by omega)]
theorem put_one {n : Int} (h0 : 0 ≤ n) (h : n < 64) : (put n).length = 1 := by
  unfold put zig; rw [if_pos h0, layN_small (by omega)]; rfl
theorem put_ge (n : Int) : 1 ≤ (put n).length := by
  unfold put
  by_cases h : (zig n).toNat < 128
  · rw [layN_small h]; simp
  · rw [layN_big (by omega)]; simp
theorem small_check {d : Int} (h0 : 0 ≤ d) (h : d < 32) : recCheck (smallR d) = 0 := by
  unfold recCheck smallR; simp; omega
theorem recPut_small {d : Int} (h0 : 0 ≤ d) (h : d < 32) : ((recPut (smallR d)).1).length = 4 := by
  unfold recPut
  rw [if_pos (small_check h0 h)]
  show (recBytes (smallR d)).length = 4
  have e1 := put_one h0 (by omega)
  have e0 : (put 0).length = 1 := put_one (by decide) (by decide)
  unfold recBytes smallR textL
  simp [e1, e0]
theorem recPut_ge {r : Rec} (h : recCheck r = 0) : 4 ≤ ((recPut r).1).length := by
  obtain ⟨_, _, h5, h6⟩ := recCheck_ok h
  unfold recPut
  rw [if_pos h]
  show 4 ≤ (recBytes r).length
  unfold recBytes
  rw [List.length_cons, List.length_append, List.length_append, List.length_append]
  have a1 := put_ge r.delta
  have a2 := put_ge r.time
  have a3 : 1 ≤ (if r.keyed then textL r.key else []).length + (if r.dead then [] else textL r.value).length := by
    cases hd : r.dead with
    | false => have := put_ge r.value.length; simp [textL]; omega
    | true =>
      cases hk : r.keyed with
      | false => exact absurd (h5 hk).2 (by simp [hd])
      | true => have := put_ge r.key.length; simp [textL]; omega
  omega
theorem chk_snoc : ∀ (rs : List Rec) (last count : Int) (r : Rec), chk last count (rs ++ [r]) = if chk last count rs ≠ 0 then chk last count rs else chk ((rs.getLast?.map Rec.delta).getD last) count [r]
  | [], last, count, r => by rw [if_neg (by simp [chk])]; rfl
  | x :: rs, last, count, r => by
    rw [List.cons_append, chk_cons, chk_cons]
    split
    · rfl
    · split
      · rfl
      · rw [chk_snoc rs x.delta count r]
        cases rs with
        | nil => rfl
        | cons y ys => rfl
theorem chk_take : ∀ (rs : List Rec) (last count : Int) (k : Nat), chk last count rs = 0 → chk last count (rs.take k) = 0
  | [], _, _, k, _ => by simp [chk]
  | x :: rs, last, count, 0, _ => rfl
  | x :: rs, last, count, k + 1, h => by
    rw [List.take_succ_cons, chk_cons]
    rw [chk_cons] at h
    split at h
    · next h1 => exact absurd h h1
    · next h1 =>
      rw [if_neg h1]
      split at h
      · exact absurd h (by decide)
      · next h2 => rw [if_neg h2]; exact chk_take rs _ _ k h
/-- The k-th record's delta leaves room for those behind it. -/
theorem chk_room : ∀ (rs : List Rec) (last count : Int), chk last count rs = 0 → rs ≠ [] → last + rs.length < count
  | [], _, _, _, h => absurd rfl h
  | x :: rs, last, count, h, _ => by
    rw [chk_cons] at h
    split at h
    · next h1 => exact absurd h h1
    · split at h
      · exact absurd h (by decide)
      · next h2 =>
        by_cases hr : rs = []
        · subst hr; simp; omega
        · have := chk_room rs x.delta count h hr
          rw [List.length_cons]; omega
theorem chk_last : ∀ (rs : List Rec) (last count : Int) (k : Nat), chk last count rs = 0 → k ≤ rs.length → k < rs.length → ((((rs.take k).getLast?).map Rec.delta).getD last) + (rs.length - k : Nat) < count
  | rs, last, count, 0, h, _, hk => by
    have := chk_room rs last count h (by intro h; subst h; simp at hk)
    simp; omega
  | [], _, _, k + 1, _, hk, _ => by simp at hk
  | x :: rs, last, count, k + 1, h, hk, hk2 => by
    rw [chk_cons] at h
    split at h
    · next h1 => exact absurd h h1
    · split at h
      · exact absurd h (by decide)
      · next h2 =>
        have := chk_last rs x.delta count k h (by simpa using hk) (by simpa using hk2)
        rw [List.take_succ_cons]
        have e : (((x :: rs.take k).getLast?).map Rec.delta).getD last = (((rs.take k).getLast?).map Rec.delta).getD x.delta := by
          cases hq : rs.take k with
          | nil => rfl
          | cons y ys => simp [List.getLast?_cons]
        rw [e, List.length_cons]
        simpa using this
theorem lastD_ge : ∀ (rs : List Rec) (last count : Int), chk last count rs = 0 → last ≤ (rs.getLast?.map Rec.delta).getD last
  | [], _, _, _ => by simp
  | x :: rs, last, count, h => by
    rw [chk_cons] at h
    split at h
    · next h1 => exact absurd h h1
    · split at h
      · exact absurd h (by decide)
      · next h2 =>
        have := lastD_ge rs x.delta count h
        cases rs with
        | nil => simp; omega
        | cons y ys =>
          obtain ⟨z, hz⟩ : ∃ z, (y :: ys).getLast? = some z := ⟨_, List.getLast?_eq_some_getLast (by simp)⟩
          rw [List.getLast?_cons_cons, hz]
          rw [hz] at this
          simp at this ⊢; omega
theorem nextD_eq (rs : List Rec) : nextD rs = (rs.getLast?.map Rec.delta).getD (-1) + 1 := by
  unfold nextD; cases rs.getLast? <;> simp
/-- Small records behind some that may be. -/
theorem ext_chk : ∀ (k : Nat) (rs : List Rec) (count : Int), count ≤ 32 → chk (-1) count rs = 0 → (k ≠ 0 → ((rs.getLast?.map Rec.delta).getD (-1)) + k < count) → chk (-1) count (extR rs k) = 0
  | 0, rs, count, _, h, _ => h
  | k + 1, rs, count, hc, h, hk => by
    have hk' := hk (by omega)
    have hl := lastD_ge rs (-1) count h
    rw [extR]
    refine ext_chk k _ count hc ?_ ?_
    · rw [chk_snoc, if_neg (by simp [h]), chk_cons, nextD_eq]
      rw [if_neg (by rw [small_check (by omega) (by omega)]; simp), if_neg (by simp only [smallR]; omega)]
      rfl
    · intro _
      rw [List.getLast?_concat]
      simp only [Option.map_some, Option.getD_some, smallR]
      rw [nextD_eq]; omega
theorem recsB_append (a b : List Rec) : recsB (a ++ b) = recsB a ++ recsB b := by simp [recsB]
theorem ext_len : ∀ (k : Nat) (rs : List Rec) (count : Int), count ≤ 32 → chk (-1) count rs = 0 → (k ≠ 0 → ((rs.getLast?.map Rec.delta).getD (-1)) + k < count) → (recsB (extR rs k)).length = (recsB rs).length + 4 * k
  | 0, rs, count, _, h, _ => rfl
  | k + 1, rs, count, hc, h, hk => by
    have hk' := hk (by omega)
    have hl := lastD_ge rs (-1) count h
    rw [extR, ext_len k _ count hc ?_ ?_, recsB_snoc, List.length_append, recPut_small (by rw [nextD_eq]; omega) (by rw [nextD_eq]; omega)]
    · omega
    · rw [chk_snoc, if_neg (by simp [h]), chk_cons, nextD_eq]
      rw [if_neg (by rw [small_check (by omega) (by omega)]; simp), if_neg (by simp only [smallR]; omega)]
      rfl
    · intro _
      rw [List.getLast?_concat]
      simp only [Option.map_some, Option.getD_some, smallR]
      rw [nextD_eq]; omega
theorem recsB_ge : ∀ (rs : List Rec), (∀ r ∈ rs, recCheck r = 0) → 4 * rs.length ≤ (recsB rs).length
  | [], _ => by simp
  | r :: rs, h => by
    have h1 := recsB_ge rs (fun x hx => h x (by simp [hx]))
    have h2 := recPut_ge (h r (by simp))
    have e : recsB (r :: rs) = (recPut r).1 ++ recsB rs := by simp [recsB]
    rw [e, List.length_append, List.length_cons]; omega
theorem may_prefix {b : Bat} (h : batCheck b = 0) (k : Nat) (hk : k ≤ b.recs.length) : mayB (b.put (b.recs.take k)) b.recs.length = true := by
  obtain ⟨h1, h2, h3⟩ := batCheck_ok h
  obtain ⟨q1, q2, q3, q4, q5, q6, q7, q8, q9, q10, q11⟩ := batNum_ok h1
  have hcnt : (b.recs.length : Int) ≤ b.count := by
    unfold batNum at h1
    split at h1
    · simp at h1
    · split at h1
      · simp at h1
      · split at h1
        · simp at h1
        · split at h1
          · simp at h1
          · omega
  have hl : (b.recs.take k).length = k := by rw [List.length_take]; omega
  have ht := chk_take b.recs (-1) b.count k h2
  have hroom : b.recs.length - k ≠ 0 → (((b.recs.take k).getLast?.map Rec.delta).getD (-1)) + (b.recs.length - k : Nat) < b.count := fun hne => chk_last b.recs (-1) b.count k h2 hk (by omega)
  have hlen := extR_len (b.recs.length - k) (b.recs.take k)
  unfold mayB
  simp only [Bool.and_eq_true, decide_eq_true_eq]
  refine ⟨⟨by omega, hcnt, q2⟩, ?_⟩
  show batCheck ((b.put (b.recs.take k)).put (extR (b.recs.take k) ((b.recs.length : Int).toNat - (b.recs.take k).length))) = 0
  rw [put_put, hl, show ((b.recs.length : Int).toNat - k) = b.recs.length - k by omega]
  refine batCheck_mk ?_ (ext_chk _ _ b.count q2 ht hroom) ?_
  · rw [← h1]
    unfold batNum Bat.put
    dsimp only
    rw [hlen, hl, show k + (b.recs.length - k) = b.recs.length by omega]
  · have hp : (batLay (b.put (extR (b.recs.take k) (b.recs.length - k)))).length ≤ (batLay b).length := by
      unfold batLay
      rw [List.length_append, List.length_append]
      have e1 : batHead (b.put (extR (b.recs.take k) (b.recs.length - k))) = batHead b := by
        unfold batHead Bat.put
        dsimp only
        rw [hlen, hl, show k + (b.recs.length - k) = b.recs.length by omega]
      have e2 := ext_len (b.recs.length - k) (b.recs.take k) b.count q2 ht hroom
      have e3 : (recsB b.recs).length = (recsB (b.recs.take k)).length + (recsB (b.recs.drop k)).length := by
        rw [← List.length_append, ← recsB_append, List.take_append_drop]
      have e4 := recsB_ge (b.recs.drop k) (fun r hr => chk_all _ _ _ h2 r (List.mem_of_mem_drop hr))
      rw [List.length_drop] at e4
      rw [e1]
      show _ + (recsB (extR (b.recs.take k) (b.recs.length - k))).length ≤ _
      omega
    omega

/-! ### reading batches -/
def readRecs (n : Int) : Nat → Bat → List (List UInt8) → Nat → Bat × Nat × Bool
  | 0, b, _, j => (b, j, true)
  | _ + 1, _, [], j => (Bat.zero, j + 1, false)
  | k + 1, b, s :: ls, j => if ((recOf s).2 && mayB (b.put (b.recs ++ [(recOf s).1])) n) = true then readRecs n k (b.put (b.recs ++ [(recOf s).1])) ls (j + 1) else (Bat.zero, j + 1, false)
def headOf (w : List (List UInt8)) : Bat := ⟨numD (w[1]?.getD []), numD (w[2]?.getD []), numD (w[3]?.getD []), numD (w[4]?.getD []), numD (w[5]?.getD []), []⟩
def sizeOfW (w : List (List UInt8)) : Int := numD (w[6]?.getD [])
def readBat : List (List UInt8) → Bat × Nat × Bool
  | [] => (Bat.zero, 0, false)
  | s :: ls => if (splitC 32 s).length ≠ 7 then (Bat.zero, 1, false)
    else if firstLine (headOf (splitC 32 s)) (sizeOfW (splitC 32 s)) ≠ s ∨ mayB (headOf (splitC 32 s)) (sizeOfW (splitC 32 s)) = false then (Bat.zero, 1, false)
    else readRecs (sizeOfW (splitC 32 s)) (sizeOfW (splitC 32 s)).toNat (headOf (splitC 32 s)) ls 1
def readL : Nat → List (List UInt8) → Nat → List Bat → Option (List Bat) × Nat
  | 0, _, at_, out => (some out, at_)
  | f + 1, ls, at_, out => if ls = [] then (some out, at_) else if 1000 ≤ out.length then (none, at_ + 1)
    else if (readBat ls).2.2 = true then readL f (ls.drop (readBat ls).2.1) (at_ + (readBat ls).2.1) (out ++ [(readBat ls).1]) else (none, at_ + (readBat ls).2.1)
def wholeB (t : List UInt8) : Bool := decide (t.getLast? = some 10)
def linesOf (t : List UInt8) : List (List UInt8) := splitC 10 (if wholeB t then t.dropLast else t)
def dumpRead (t : List UInt8) : List Bat × Nat × Int :=
  if 65536 < t.length then ([], 0, 5) else if t = [] then ([], 0, 0) else
  match readL (linesOf t).length (linesOf t) 0 [] with
  | (none, j) => ([], if wholeB t then j else min j (linesOf t).length, 4)
  | (some m, _) => if wholeB t then (m, 0, 0) else ([], (linesOf t).length, 4)

theorem readRecs_ok (n : Int) : ∀ (k : Nat) (b : Bat) (ls : List (List UInt8)) (j : Nat) (b' : Bat) (j' : Nat), readRecs n k b ls j = (b', j', true) →
    ∃ rs : List Rec, k ≤ ls.length ∧ rs.length = k ∧ ls.take k = rs.map recLine ∧ b' = b.put (b.recs ++ rs) ∧ j' = j + k ∧ (k ≠ 0 → mayB b' n = true)
  | 0, b, ls, j, b', j', h => by
    rw [readRecs] at h; cases h
    exact ⟨[], by simp, rfl, rfl, by rw [List.append_nil, put_self], rfl, fun h => absurd rfl h⟩
  | k + 1, b, [], j, b', j', h => by rw [readRecs] at h; cases h
  | k + 1, b, s :: ls, j, b', j', h => by
    rw [readRecs] at h
    split at h
    · next hc =>
      simp only [Bool.and_eq_true] at hc
      obtain ⟨rs, h1, h2, h3, h4, h5, h6⟩ := readRecs_ok n k _ ls (j + 1) b' j' h
      refine ⟨(recOf s).1 :: rs, by simp; omega, by simp [h2], ?_, ?_, by omega, fun _ => ?_⟩
      · rw [List.take_succ_cons, h3, List.map_cons, recOf_line hc.1]
      · rw [h4]; unfold Bat.put; simp
      · by_cases hk : k = 0
        · subst hk
          have : rs = [] := List.eq_nil_of_length_eq_zero h2
          subst this
          rw [h4, List.append_nil]; exact hc.2
        · exact h6 hk
    · cases h
theorem readBat_ok {ls : List (List UInt8)} {b : Bat} {j : Nat} (h : readBat ls = (b, j, true)) : j = 1 + b.recs.length ∧ j ≤ ls.length ∧ ls.take j = batLines b ∧ batCheck b = 0 := by
  match ls with
  | [] => rw [readBat] at h; cases h
  | s :: ls =>
    rw [readBat] at h
    split at h
    · cases h
    · split at h
      · cases h
      · next hf =>
        rw [not_or] at hf
        obtain ⟨hf1, hf2⟩ := hf
        have hf1 : firstLine (headOf (splitC 32 s)) (sizeOfW (splitC 32 s)) = s := Classical.byContradiction hf1
        have hf2 : mayB (headOf (splitC 32 s)) (sizeOfW (splitC 32 s)) = true := by simpa using hf2
        obtain ⟨rs, h1, h2, h3, h4, h5, h6⟩ := readRecs_ok _ _ _ _ _ _ _ h
        have hn0 : 0 ≤ sizeOfW (splitC 32 s) := by
          unfold mayB at hf2
          simp only [Bool.and_eq_true, decide_eq_true_eq] at hf2
          exact hf2.1.1
        have hrs : b.recs = rs := by rw [h4]; rfl
        have hlen : (b.recs.length : Int) = sizeOfW (splitC 32 s) := by rw [hrs, h2]; omega
        refine ⟨by omega, by simp; omega, ?_, ?_⟩
        · rw [h5, show 1 + (sizeOfW (splitC 32 s)).toNat = (sizeOfW (splitC 32 s)).toNat + 1 by omega, List.take_succ_cons, h3]
          unfold batLines
          rw [hlen, hrs]
          congr 1
          rw [h4]
          exact hf1.symm
        · by_cases hz : (sizeOfW (splitC 32 s)).toNat = 0
          · have : rs = [] := List.eq_nil_of_length_eq_zero (by omega)
            subst this
            have := mayB_full hf2 (by omega)
            rw [h4]; exact this
          · exact mayB_full (h6 hz) (by omega)
theorem readL_ok : ∀ (f : Nat) (ls : List (List UInt8)) (at_ : Nat) (out m : List Bat) (x : Nat), ls.length ≤ f → out.length ≤ 1000 → readL f ls at_ out = (some m, x) →
    ∃ l, m = out ++ l ∧ ls = l.flatMap batLines ∧ (∀ b ∈ l, batCheck b = 0) ∧ m.length ≤ 1000
  | 0, ls, at_, out, m, x, hf, ho, h => by
    rw [readL] at h; cases h
    have : ls = [] := List.eq_nil_of_length_eq_zero (by omega)
    subst this
    exact ⟨[], by simp, rfl, by simp, ho⟩
  | f + 1, ls, at_, out, m, x, hf, ho, h => by
    rw [readL] at h
    split at h
    · next hl => cases h; subst hl; exact ⟨[], by simp, rfl, by simp, ho⟩
    · split at h
      · cases h
      · next hl ho2 =>
        split at h
        · next hok =>
          rcases hb : readBat ls with ⟨b, j, ok⟩
          rw [hb] at h hok
          dsimp only at h hok
          subst hok
          obtain ⟨h1, h2, h3, h4⟩ := readBat_ok hb
          obtain ⟨l, e1, e2, e3, e4⟩ := readL_ok f (ls.drop j) (at_ + j) (out ++ [b]) m x (by rw [List.length_drop]; omega) (by simp; omega) h
          refine ⟨b :: l, by rw [e1]; simp, ?_, ?_, e4⟩
          · rw [List.flatMap_cons, ← h3, ← e2, List.take_append_drop]
          · intro y hy
            rcases List.mem_cons.1 hy with rfl | hy
            · exact h4
            · exact e3 y hy
        · cases h
theorem readRecs_j (n : Int) : ∀ (k : Nat) (b : Bat) (ls : List (List UInt8)) (j : Nat), j ≤ (readRecs n k b ls j).2.1
  | 0, b, ls, j => by rw [readRecs]; exact Nat.le_refl _
  | k + 1, b, [], j => by rw [readRecs]; simp
  | k + 1, b, s :: ls, j => by
    rw [readRecs]
    split
    · have := readRecs_j n k (b.put (b.recs ++ [(recOf s).1])) ls (j + 1); omega
    · simp
theorem readBat_j {ls : List (List UInt8)} (h : ls ≠ []) : 1 ≤ (readBat ls).2.1 := by
  match ls, h with
  | s :: ls, _ =>
    rw [readBat]
    split
    · simp
    · split
      · simp
      · exact readRecs_j _ _ _ _ _
theorem readL_fail : ∀ (f : Nat) (ls : List (List UInt8)) (at_ : Nat) (out : List Bat) (j : Nat), readL f ls at_ out = (none, j) → at_ + 1 ≤ j
  | 0, ls, at_, out, j, h => by rw [readL] at h; cases h
  | f + 1, ls, at_, out, j, h => by
    rw [readL] at h
    split at h
    · cases h
    · next hl =>
      have := readBat_j hl
      split at h
      · cases h; exact Nat.le_refl _
      · split at h
        · have := readL_fail f _ _ _ _ h; omega
        · cases h; omega
theorem head_back {b : Bat} (h : batCheck b = 0) (n : Int) : headOf (firstWords b n) = b.put [] := by
  obtain ⟨h1, _, _⟩ := batCheck_ok h
  obtain ⟨q1, q2, q3, q4, q5, q6, q7, q8, q9, q10, q11⟩ := batNum_ok h1
  unfold headOf firstWords Bat.put
  simp only [List.getElem?_cons_succ, List.getElem?_cons_zero, Option.getD_some]
  rw [numD_dig (n := b.base) (by omega) (by omega), numD_dig (n := b.count) (by omega) (by omega), numD_dig (n := b.producer) (by omega) (by omega), numD_dig (n := b.epoch) (by omega) (by omega), numD_dig (n := b.seq) (by omega) (by omega)]
theorem size_back (b : Bat) (n : Nat) (h : n ≤ 1000) : sizeOfW (firstWords b n) = n := by
  unfold sizeOfW firstWords
  simp only [List.getElem?_cons_succ, List.getElem?_cons_zero, Option.getD_some]
  exact numD_dig (by omega) (by omega)
/-- Lines that agree with those of a batch, the first p of them. -/
theorem readRecs_pre {b : Bat} (hb : batCheck b = 0) : ∀ (d : Nat) (ls : List (List UInt8)) (j p : Nat), d ≤ b.recs.length → p ≤ b.recs.length - d → p ≤ ls.length → ls.take p = ((b.recs.drop d).map recLine).take p →
    (p < b.recs.length - d → (j + p + 1 ≤ (readRecs b.recs.length (b.recs.length - d) (b.put (b.recs.take d)) ls j).2.1)) ∧ (p = b.recs.length - d → readRecs b.recs.length (b.recs.length - d) (b.put (b.recs.take d)) ls j = (b, j + p, true)) := by
  intro d
  obtain ⟨q1, q2, q3⟩ := batCheck_ok hb
  generalize hm : b.recs.length - d = m
  induction m generalizing d with
  | zero =>
    intro ls j p hd hp hp2 ht
    refine ⟨fun h => by omega, fun h => ?_⟩
    subst h
    rw [readRecs, List.take_of_length_le (by omega), put_self]; rfl
  | succ m ih =>
    intro ls j p hd hp hp2 ht
    obtain ⟨r, hr⟩ : ∃ r, b.recs[d]? = some r := ⟨_, List.getElem?_eq_getElem (by omega)⟩
    have hmem := List.mem_of_getElem? hr
    have hdr := drop_at b.recs d r hr
    cases ls with
    | nil =>
      have : p = 0 := by simpa using hp2
      subst this
      refine ⟨fun _ => by rw [readRecs]; simp, fun h => by omega⟩
    | cons s ls =>
      rw [readRecs]
      cases p with
      | zero =>
        refine ⟨fun _ => ?_, fun h => by omega⟩
        split
        · exact readRecs_j _ _ _ _ _
        · simp
      | succ p =>
        rw [hdr, List.map_cons, List.take_succ_cons, List.take_succ_cons] at ht
        obtain ⟨rfl, ht'⟩ := List.cons.inj ht
        have hs : recOf (recLine r) = (r, true) := recOf_back (chk_all _ _ _ q2 r hmem)
        have hput : (b.put (b.recs.take d)).put ((b.put (b.recs.take d)).recs ++ [r]) = b.put (b.recs.take (d + 1)) := by
          rw [put_put]
          show b.put (b.recs.take d ++ [r]) = _
          rw [take_get b.recs d r hr]
        have hmay := may_prefix hb (d + 1) (by omega)
        rw [hs]
        dsimp only
        rw [hput, hmay]
        simp only [Bool.and_self, if_true]
        have := ih (d + 1) (by omega) ls (j + 1) p (by omega) (by omega) (by simp at hp2; omega) ht'
        refine ⟨fun h => ?_, fun h => ?_⟩
        · have := this.1 (by omega); omega
        · rw [this.2 (by omega)]; congr 2; omega
theorem readBat_pre {b : Bat} (hb : batCheck b = 0) (ls : List (List UInt8)) (p : Nat) (hp : p ≤ 1 + b.recs.length) (hp2 : p ≤ ls.length) (ht : ls.take p = (batLines b).take p) (h0 : 1 ≤ p) :
    (p < 1 + b.recs.length → p + 1 ≤ (readBat ls).2.1) ∧ (p = 1 + b.recs.length → readBat ls = (b, p, true)) := by
  obtain ⟨q1, q2, q3⟩ := batCheck_ok hb
  obtain ⟨_, _, _, _, _, _, _, _, _, _, h32⟩ := batNum_ok q1
  match ls, p, h0 with
  | [], p + 1, _ => simp at hp2
  | s :: ls, p + 1, _ =>
    unfold batLines at ht
    rw [List.take_succ_cons, List.take_succ_cons] at ht
    obtain ⟨rfl, ht'⟩ := List.cons.inj ht
    have hsz := size_back b b.recs.length (by omega)
    have hhd := head_back hb b.recs.length
    have hm := may_prefix hb 0 (by omega)
    rw [List.take_zero] at hm
    rw [readBat, split_first, hsz, hhd]
    rw [if_neg (by simp [firstWords])]
    have e : firstLine (b.put []) b.recs.length = firstLine b b.recs.length := rfl
    rw [if_neg (by rw [e, hm]; simp)]
    have h3 := readRecs_pre hb 0 ls 1 p (by omega) (by omega) (by simp at hp2; omega) (by rw [List.drop_zero]; exact ht')
    rw [Nat.sub_zero, List.take_zero] at h3
    rw [show ((b.recs.length : Int)).toNat = b.recs.length by omega]
    refine ⟨fun h => ?_, fun h => ?_⟩
    · have := h3.1 (by omega); omega
    · rw [h3.2 (by omega)]; congr 2; omega
theorem batLines_len (b : Bat) : (batLines b).length = 1 + b.recs.length := by unfold batLines; simp; omega
theorem readBat_back {b : Bat} (hb : batCheck b = 0) (rest : List (List UInt8)) : readBat (batLines b ++ rest) = (b, 1 + b.recs.length, true) := by
  have hl := batLines_len b
  exact (readBat_pre hb (batLines b ++ rest) (1 + b.recs.length) (Nat.le_refl _) (by rw [List.length_append]; omega) (by rw [List.take_append_of_le_length (by omega)]) (by omega)).2 rfl
theorem readL_pre : ∀ (f : Nat) (ls : List (List UInt8)) (at_ : Nat) (out l : List Bat) (p j : Nat), (∀ b ∈ l, batCheck b = 0) → out.length + l.length ≤ 1000 → p ≤ ls.length → p ≤ (l.flatMap batLines).length → ls.take p = (l.flatMap batLines).take p →
    readL f ls at_ out = (none, j) → at_ + p + 1 ≤ j
  | 0, ls, at_, out, l, p, j, _, _, _, _, _, h => by rw [readL] at h; cases h
  | f + 1, ls, at_, out, l, p, j, hl, ho, hp, hp2, ht, h => by
    by_cases hp0 : p = 0
    · subst hp0; exact readL_fail _ _ _ _ _ h
    · rw [readL] at h
      split at h
      · cases h
      · next hne =>
        match l, hl, ho, hp2, ht with
        | [], hl, ho, hp2, ht => simp at hp2; omega
        | b :: l, hl, ho, hp2, ht =>
          have hb := hl b (by simp)
          have hlen := batLines_len b
          rw [List.length_cons] at ho
          rw [if_neg (by omega)] at h
          rw [List.flatMap_cons] at hp2 ht
          by_cases hp1 : p < 1 + b.recs.length
          · have hpre := (readBat_pre hb ls p (by omega) hp (by rw [ht, List.take_append_of_le_length (by omega)]) (by omega)).1 hp1
            split at h
            · have := readL_fail _ _ _ _ _ h; omega
            · cases h; omega
          · have hwhole : ls = batLines b ++ ls.drop (1 + b.recs.length) := by
              have h1 : ls.take (1 + b.recs.length) = batLines b := by
                have h2 := congrArg (List.take (1 + b.recs.length)) ht
                rw [List.take_take, List.take_take, Nat.min_eq_left (by omega)] at h2
                rw [h2, List.take_append_of_le_length (by omega), List.take_of_length_le (by omega)]
              rw [← h1, List.take_append_drop]
            have hr : readBat ls = (b, 1 + b.recs.length, true) := by rw [hwhole]; exact readBat_back hb _
            rw [hr] at h
            dsimp only at h
            rw [if_pos rfl] at h
            have := readL_pre f (ls.drop (1 + b.recs.length)) (at_ + (1 + b.recs.length)) (out ++ [b]) l (p - (1 + b.recs.length)) j (fun x hx => hl x (by simp [hx])) (by simp; omega)
              (by rw [List.length_drop]; omega) (by rw [List.length_append] at hp2; omega) (by
                have h2 := congrArg (List.drop (1 + b.recs.length)) ht
                rw [List.drop_take, List.drop_take] at h2
                rw [h2, List.drop_append_of_le_length (by omega), List.drop_of_length_le (by omega), List.nil_append]) h
            omega
theorem readL_back : ∀ (l : List Bat) (f at_ : Nat) (out : List Bat), (∀ b ∈ l, batCheck b = 0) → out.length + l.length ≤ 1000 → (l.flatMap batLines).length ≤ f → ∃ x, readL f (l.flatMap batLines) at_ out = (some (out ++ l), x)
  | [], 0, at_, out, _, _, _ => ⟨at_, by rw [readL, List.append_nil]⟩
  | [], f + 1, at_, out, _, _, _ => ⟨at_, by rw [readL, List.flatMap_nil, if_pos rfl, List.append_nil]⟩
  | b :: l, 0, at_, out, _, _, hf => by rw [List.flatMap_cons, List.length_append, batLines_len] at hf; omega
  | b :: l, f + 1, at_, out, hl, ho, hf => by
    rw [List.flatMap_cons] at hf ⊢
    rw [List.length_append, batLines_len] at hf
    rw [List.length_cons] at ho
    have hb := hl b (by simp)
    rw [readL, if_neg (by unfold batLines; simp), if_neg (by omega), readBat_back hb]
    dsimp only
    rw [if_pos rfl, List.drop_append_of_le_length (by rw [batLines_len]; omega), List.drop_of_length_le (by rw [batLines_len]; omega), List.nil_append]
    obtain ⟨x, hx⟩ := readL_back l f (at_ + (1 + b.recs.length)) (out ++ [b]) (fun y hy => hl y (by simp [hy])) (by simp; omega) (by omega)
    exact ⟨x, by rw [hx]; simp⟩

/-! ### texts -/
theorem textGo_ok : ∀ {l : List Bat} {s : List UInt8}, textGo l = (s, 0) → (∀ b ∈ l, batCheck b = 0) ∧ s = (l.flatMap batLines).flatMap lineB
  | [], s, h => by rw [textGo] at h; cases h; exact ⟨by simp, rfl⟩
  | b :: l, s, h => by
    rw [textGo] at h
    split at h
    · next hb => exact absurd (congrArg Prod.snd h) hb
    · next hb =>
      split at h
      · next he => exact absurd (congrArg Prod.snd h) he
      · next he =>
        have he : (textGo l).2 = 0 := Classical.byContradiction he
        obtain ⟨h1, h2⟩ := textGo_ok (l := l) (s := (textGo l).1) (by rw [← he])
        refine ⟨fun x hx => ?_, ?_⟩
        · rcases List.mem_cons.1 hx with rfl | hx
          · exact Classical.byContradiction hb
          · exact h1 x hx
        · have h3 := congrArg Prod.fst h
          dsimp only at h3
          rw [← h3, List.flatMap_cons, List.flatMap_append, ← h2]
theorem textGo_mk : ∀ {l : List Bat}, (∀ b ∈ l, batCheck b = 0) → textGo l = ((l.flatMap batLines).flatMap lineB, 0)
  | [], _ => rfl
  | b :: l, h => by
    have h1 := textGo_mk (l := l) (fun x hx => h x (by simp [hx]))
    have hb := h b (by simp)
    rw [textGo, if_neg (by simp [hb]), h1, if_neg (by simp), List.flatMap_cons, List.flatMap_append]
theorem lines_join : ∀ {ls : List (List UInt8)}, ls ≠ [] → ls.flatMap lineB = joinC 10 ls ++ [10]
  | [], h => absurd rfl h
  | [w], _ => by simp [joinC, lineB]
  | w :: v :: ls, _ => by
    rw [List.flatMap_cons, lines_join (ls := v :: ls) (by simp), joinC_cons 10 w (by simp)]
    simp [lineB]
theorem all_ten (l : List Bat) : ∀ s ∈ l.flatMap batLines, (10 : UInt8) ∉ s := by
  intro s hs
  obtain ⟨b, _, h⟩ := List.mem_flatMap.1 hs
  exact batLines_ten b s h
theorem flat_lines_ne {l : List Bat} (h : l ≠ []) : l.flatMap batLines ≠ [] := by
  cases l with
  | nil => exact absurd rfl h
  | cons b l => rw [List.flatMap_cons]; unfold batLines; simp
theorem whole_snoc (t : List UInt8) : wholeB (t ++ [10]) = true := by unfold wholeB; simp
theorem linesOf_text {l : List Bat} (h : l ≠ []) : wholeB ((l.flatMap batLines).flatMap lineB) = true ∧ linesOf ((l.flatMap batLines).flatMap lineB) = l.flatMap batLines := by
  have hw : wholeB ((l.flatMap batLines).flatMap lineB) = true := by rw [lines_join (flat_lines_ne h)]; exact whole_snoc _
  refine ⟨hw, ?_⟩
  unfold linesOf
  rw [if_pos hw, lines_join (flat_lines_ne h), List.dropLast_concat, splitC_join 10 _ (flat_lines_ne h) (all_ten l)]
theorem text_ne {l : List Bat} (h : l ≠ []) : (l.flatMap batLines).flatMap lineB ≠ [] := by
  rw [lines_join (flat_lines_ne h)]; simp
theorem textOf_ok {l : List Bat} {s : List UInt8} (h : textOf l = (s, 0)) : l.length ≤ 1000 ∧ (∀ b ∈ l, batCheck b = 0) ∧ s = (l.flatMap batLines).flatMap lineB := by
  unfold textOf at h
  split at h
  · cases h
  · have := textGo_ok h; exact ⟨by omega, this⟩
/-- What was told is read as it was. -/
theorem dump_back {l : List Bat} {s : List UInt8} (h : textOf l = (s, 0)) (hs : s.length ≤ 65536) : dumpRead s = (l, 0, 0) := by
  obtain ⟨h1, h2, rfl⟩ := textOf_ok h
  unfold dumpRead
  rw [if_neg (by omega)]
  by_cases hl : l = []
  · subst hl; rfl
  · obtain ⟨e1, e2⟩ := linesOf_text hl
    rw [if_neg (text_ne hl), e2, e1]
    obtain ⟨x, hx⟩ := readL_back l (l.flatMap batLines).length 0 [] h2 (by simpa using h1) (Nat.le_refl _)
    rw [hx]; rfl
theorem whole_ends {t : List UInt8} (h : wholeB t = true) : t = t.dropLast ++ [10] := by
  unfold wholeB at h
  simp only [decide_eq_true_eq] at h
  obtain ⟨ys, rfl⟩ := List.getLast?_eq_some_iff.1 h
  rw [List.dropLast_concat]
theorem linesOf_ne (t : List UInt8) : linesOf t ≠ [] := splitC_ne _ _
/-- What is read has that text again; what is not is told at a line. -/
theorem dump_read (t : List UInt8) : (∃ m, dumpRead t = (m, 0, 0) ∧ textOf m = (t, 0)) ∨ (∃ n, dumpRead t = ([], n, 4) ∧ 0 < n) ∨ (65536 < t.length ∧ dumpRead t = ([], 0, 5)) := by
  unfold dumpRead
  by_cases hlen : 65536 < t.length
  · exact .inr (.inr ⟨hlen, by rw [if_pos hlen]⟩)
  · rw [if_neg hlen]
    by_cases ht : t = []
    · exact .inl ⟨[], by rw [if_pos ht], by subst ht; rfl⟩
    · rw [if_neg ht]
      have hn : 0 < (linesOf t).length := List.length_pos_iff.2 (linesOf_ne t)
      cases hr : readL (linesOf t).length (linesOf t) 0 [] with
      | mk o j =>
        cases o with
        | none =>
          have := readL_fail _ _ _ _ _ hr
          refine .inr (.inl ⟨_, rfl, ?_⟩)
          split <;> omega
        | some m =>
          simp only
          cases hw : wholeB t with
          | false => exact .inr (.inl ⟨_, by rw [if_neg (by simp)], hn⟩)
          | true =>
            refine .inl ⟨m, by rw [if_pos rfl], ?_⟩
            obtain ⟨l, e1, e2, e3, e4⟩ := readL_ok _ _ _ _ _ _ (Nat.le_refl _) (by simp) hr
            rw [List.nil_append] at e1
            subst e1
            unfold textOf
            rw [if_neg (by omega), textGo_mk e3, ← e2, lines_join (linesOf_ne t)]
            have h1 : joinC 10 (linesOf t) = t.dropLast := by unfold linesOf; rw [if_pos hw, joinC_split]
            rw [h1, ← whole_ends hw]

/-! ### a byte that was changed, a text that was cut -/
def tens (v : List UInt8) : Nat := (v.filter (· == 10)).length
theorem split_len : ∀ v : List UInt8, (splitC 10 v).length = tens v + 1
  | [] => rfl
  | x :: v => by
    have ih := split_len v
    rw [splitC]
    by_cases hx : x = 10
    · subst hx; rw [if_pos rfl, List.length_cons, ih]; rfl
    · rw [if_neg hx]
      have e : tens (x :: v) = tens v := by unfold tens; rw [List.filter_cons, if_neg (by simpa using hx)]
      rw [e, ← ih]
      cases hs : splitC 10 v with
      | nil => exact absurd hs (splitC_ne 10 v)
      | cons w ws => rfl
/-- The lines that end within a beginning are those of the whole. -/
theorem split_pre : ∀ (v u : List UInt8), (splitC 10 (v ++ u)).take (tens v) = (splitC 10 v).take (tens v) ∧ tens v < (splitC 10 (v ++ u)).length
  | [], u => by
    have := List.length_pos_iff.2 (splitC_ne 10 u)
    exact ⟨rfl, this⟩
  | x :: v, u => by
    obtain ⟨h1, h2⟩ := split_pre v u
    rw [List.cons_append, splitC, splitC]
    by_cases hx : x = 10
    · subst hx
      have e : tens (10 :: v) = tens v + 1 := rfl
      rw [if_pos rfl, if_pos rfl, e, List.take_succ_cons, List.take_succ_cons, h1, List.length_cons]
      exact ⟨rfl, by omega⟩
    · have e : tens (x :: v) = tens v := by unfold tens; rw [List.filter_cons, if_neg (by simpa using hx)]
      rw [if_neg hx, if_neg hx, e]
      cases hs : splitC 10 (v ++ u) with
      | nil => exact absurd hs (splitC_ne 10 _)
      | cons w ws =>
        cases hs2 : splitC 10 v with
        | nil => exact absurd hs2 (splitC_ne 10 _)
        | cons w2 ws2 =>
          rw [hs, hs2] at h1
          rw [hs] at h2
          simp only
          refine ⟨?_, h2⟩
          cases ht : tens v with
          | zero => rfl
          | succ k =>
            rw [ht, List.take_succ_cons, List.take_succ_cons] at h1
            obtain ⟨rfl, h3⟩ := List.cons.inj h1
            rw [List.take_succ_cons, List.take_succ_cons, h3]
/-- A text that begins as that of batches does: what is wrong is told behind what was not changed. -/
theorem dump_pre {l : List Bat} (h2 : ∀ b ∈ l, batCheck b = 0) (h1 : l.length ≤ 1000) (t : List UInt8) (p : Nat) (hp : p ≤ (linesOf t).length) (hp2 : p ≤ (l.flatMap batLines).length) (hp3 : wholeB t = false → p < (linesOf t).length)
    (ht : (linesOf t).take p = (l.flatMap batLines).take p) (n : Nat) (hd : dumpRead t = ([], n, 4)) : p + 1 ≤ n := by
  unfold dumpRead at hd
  split at hd
  · cases hd
  · split at hd
    · cases hd
    · cases hr : readL (linesOf t).length (linesOf t) 0 [] with
      | mk o j =>
        rw [hr] at hd
        cases o with
        | none =>
          have hj := readL_pre _ _ _ _ l p j h2 (by simpa using h1) hp hp2 ht hr
          have hd1 := congrArg (fun x => x.2.1) hd
          dsimp only at hd1
          cases hw : wholeB t with
          | false => rw [hw] at hd1; have := hp3 hw; rw [if_neg (by simp)] at hd1; omega
          | true => rw [hw] at hd1; rw [if_pos rfl] at hd1; omega
        | some m =>
          dsimp only at hd
          cases hw : wholeB t with
          | false => rw [hw] at hd; rw [if_neg (by simp)] at hd; have := hp3 hw; cases hd; omega
          | true => rw [hw] at hd; rw [if_pos rfl] at hd; cases hd
theorem take_set {α : Type} (l : List α) (k : Nat) (c : α) : (l.set k c).take k = l.take k := by
  apply List.ext_getElem?
  intro i
  rw [List.getElem?_take, List.getElem?_take]
  split
  · rw [List.getElem?_set_ne (by omega)]
  · rfl
theorem dropLast_pre {t : List UInt8} {k : Nat} (hk : k < t.length) : ∃ u, t.dropLast = t.take k ++ u := ⟨(t.dropLast).drop k, by
  rw [← List.take_append_drop k t.dropLast]
  congr 1
  · rw [List.dropLast_eq_take, List.take_take, Nat.min_eq_left (by omega)]
  · rw [List.take_append_drop]⟩
/-- One byte is changed. -/
theorem dump_set {l : List Bat} {s : List UInt8} (h : textOf l = (s, 0)) (k : Nat) (hk : k < s.length) (c : UInt8) (n : Nat) (hd : dumpRead (s.set k c) = ([], n, 4)) : tens (s.take k) + 1 ≤ n := by
  obtain ⟨h1, h2, rfl⟩ := textOf_ok h
  by_cases hl : l = []
  · subst hl; simp at hk
  · obtain ⟨e1, e2⟩ := linesOf_text hl
    generalize (l.flatMap batLines).flatMap lineB = s at *
    obtain ⟨u, hu⟩ := dropLast_pre hk
    have hs : l.flatMap batLines = splitC 10 (s.take k ++ u) := by rw [← e2]; unfold linesOf; rw [if_pos e1, hu]
    obtain ⟨a1, a2⟩ := split_pre (s.take k) u
    have hk' : k < (s.set k c).length := by rw [List.length_set]; exact hk
    have hq : ∃ q, linesOf (s.set k c) = splitC 10 (s.take k ++ q) := by
      unfold linesOf
      split
      · obtain ⟨q, hq⟩ := dropLast_pre hk'
        rw [take_set] at hq
        exact ⟨q, by rw [hq]⟩
      · exact ⟨(s.set k c).drop k, by rw [← take_set s k c, List.take_append_drop]⟩
    obtain ⟨q, hq⟩ := hq
    obtain ⟨b1, b2⟩ := split_pre (s.take k) q
    exact dump_pre h2 h1 (s.set k c) (tens (s.take k)) (by rw [hq]; omega) (by rw [hs]; omega) (fun _ => by rw [hq]; exact b2) (by rw [hq, hs, a1, b1]) n hd
/-- The text is cut. -/
theorem dump_cut {l : List Bat} {s : List UInt8} (h : textOf l = (s, 0)) (k : Nat) (hk : k < s.length) (n : Nat) (hd : dumpRead (s.take k) = ([], n, 4)) : tens (s.take k) + 1 ≤ n := by
  obtain ⟨h1, h2, rfl⟩ := textOf_ok h
  by_cases hl : l = []
  · subst hl; simp at hk
  · obtain ⟨e1, e2⟩ := linesOf_text hl
    generalize (l.flatMap batLines).flatMap lineB = s at *
    obtain ⟨u, hu⟩ := dropLast_pre hk
    have hs : l.flatMap batLines = splitC 10 (s.take k ++ u) := by rw [← e2]; unfold linesOf; rw [if_pos e1, hu]
    obtain ⟨a1, a2⟩ := split_pre (s.take k) u
    generalize s.take k = v at *
    cases hw : wholeB v with
    | false =>
      have hq : linesOf v = splitC 10 v := by unfold linesOf; rw [hw]; rfl
      have hlen := split_len v
      exact dump_pre h2 h1 v (tens v) (by rw [hq]; omega) (by rw [hs]; omega) (fun _ => by rw [hq]; omega) (by rw [hq, hs, a1]) n hd
    | true =>
      have hv := whole_ends hw
      have hq : linesOf v = splitC 10 v.dropLast := by unfold linesOf; rw [if_pos hw]
      have ht : tens v = tens v.dropLast + 1 := by
        rw [hv]; unfold tens; rw [List.filter_append, List.length_append, List.dropLast_concat]; rfl
      have hlen := split_len v.dropLast
      have hsv : splitC 10 v = splitC 10 v.dropLast ++ [[]] := by
        have h3 : joinC 10 (splitC 10 v.dropLast ++ [[]]) = v := by
          have h4 : ∀ ws : List (List UInt8), ws ≠ [] → joinC 10 (ws ++ [[]]) = joinC 10 ws ++ [10] := by
            intro ws
            induction ws with
            | nil => intro h; exact absurd rfl h
            | cons w ws ih =>
              intro _
              cases ws with
              | nil => simp [joinC]
              | cons x xs => rw [List.cons_append, joinC_cons 10 w (by simp), ih (by simp), joinC_cons 10 w (by simp)]; simp
          rw [h4 _ (splitC_ne _ _), joinC_split, ← hv]
        rw [← h3, splitC_join 10 _ (by simp) (fun w hx => ?_)]
        · rw [h3]
        · rcases List.mem_append.1 hx with hx | hx
          · exact splitC_mem 10 _ w hx
          · simp at hx; subst hx; simp
      exact dump_pre h2 h1 v (tens v) (by rw [hq]; omega) (by rw [hs]; omega) (fun h => by rw [hw] at h; cases h)
        (by rw [hq, hs, a1, hsv, List.take_append_of_le_length (by omega)]) n hd
end Go.Proofs.YtejokhgabcldhaaDoor
