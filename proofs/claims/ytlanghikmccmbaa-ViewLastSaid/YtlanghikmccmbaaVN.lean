/- law 36, Apply: the plain law of a record's part in a view's rows. -/
import Derived.Test.YtlanghikmccmbaaVA
import Derived.Test.YtlanghikmccmbaaVK
import Derived.Test.YtlanghikmccmbaaMA
namespace Go.Proofs.Ytlanghikmccmbaa
set_option linter.unusedVariables false
set_option linter.unusedSimpArgs false
/-- Rows without a key's, and how many lie ahead of it. -/
def wo (k : List UInt8) (l : List VRow) : List VRow := l.filter fun x => !decide (x.key = k)
def atK (k : List UInt8) (l : List VRow) : Nat := l.countP fun x => ltB x.key k
def rowOf (r : Rec) (o : Int) : VRow := ⟨r.key, r.value, o, r.time⟩
/-- A record's part. -/
def oneR (l : List VRow) (r : Rec) (o : Int) : List VRow :=
  if r.keyed = false then l else if r.dead = true then wo r.key l else (wo r.key l).take (atK r.key l) ++ [rowOf r o] ++ (wo r.key l).drop (atK r.key l)
def foldR (base : Int) (l : List VRow) (rs : List Rec) : List VRow := rs.foldl (fun l r => oneR l r (base + r.delta)) l
theorem ltB_irrefl (k : List UInt8) : ltB k k = false := by
  unfold ltB
  induction k with
  | nil => rfl
  | cons x k ih => simp [Op.bytesLess, ih]
end Go.Proofs.Ytlanghikmccmbaa
/- law 36, Apply, plain: rows in the order of their keys. -/
namespace Go.Proofs.Ytlanghikmccmbaa
set_option linter.unusedVariables false
set_option linter.unusedSimpArgs false
theorem ltB_cons (a b : UInt8) (x y : List UInt8) : ltB (a :: x) (b :: y) = (decide (a < b) || (a == b && ltB x y)) := by
  unfold ltB; rw [Op.bytesLess]
theorem ltB_nil (b : UInt8) (y : List UInt8) : ltB [] (b :: y) = true := rfl
theorem ltB_nil' (x : List UInt8) : ltB x [] = false := by cases x <;> rfl
theorem ltB_or {a b : UInt8} {x y : List UInt8} : ltB (a :: x) (b :: y) = true ↔ a < b ∨ (a = b ∧ ltB x y = true) := by
  rw [ltB_cons]; simp
theorem u8_lt {a b : UInt8} : a < b ↔ a.toNat < b.toNat := Iff.rfl
theorem u8_eq {a b : UInt8} : a = b ↔ a.toNat = b.toNat := ⟨fun h => by rw [h], fun h => UInt8.toNat_inj.1 h⟩
theorem ltB_trans : ∀ {a b c : List UInt8}, ltB a b = true → ltB b c = true → ltB a c = true
  | _, [], _, h, _ => by rw [ltB_nil'] at h; cases h
  | _, _ :: _, [], _, h => by rw [ltB_nil'] at h; cases h
  | [], _ :: _, _ :: _, _, _ => rfl
  | a :: x, b :: y, c :: z, h, k => by
    rw [ltB_or] at *
    rw [u8_lt] at *
    rw [u8_eq] at *
    rcases h with h | ⟨h1, h2⟩
    · rcases k with k | ⟨k1, k2⟩
      · left; omega
      · left; omega
    · rcases k with k | ⟨k1, k2⟩
      · left; omega
      · exact .inr ⟨by omega, ltB_trans h2 k2⟩
theorem ltB_asymm {a b : List UInt8} (h : ltB a b = true) : ltB b a = false := by
  cases hb : ltB b a with
  | false => rfl
  | true => have := ltB_trans h hb; rw [ltB_irrefl] at this; cases this
theorem ltB_tri : ∀ {a b : List UInt8}, a ≠ b → ltB a b = false → ltB b a = true
  | [], [], h, _ => absurd rfl h
  | [], _ :: _, _, h => by rw [ltB_nil] at h; cases h
  | _ :: _, [], _, _ => rfl
  | a :: x, b :: y, h, k => by
    rw [ltB_or, u8_lt, u8_eq]
    have k' : ¬ (a < b ∨ (a = b ∧ ltB x y = true)) := by rw [← ltB_or, k]; simp
    rw [u8_lt, u8_eq] at k'
    by_cases he : a = b
    · subst he
      refine .inr ⟨rfl, ltB_tri (fun e => h (by rw [e])) ?_⟩
      cases hx : ltB x y with
      | false => rfl
      | true => exact absurd (.inr ⟨rfl, hx⟩) k'
    · rw [u8_eq] at he
      left; omega
/-- Rows in the order of their keys. -/
abbrev Asc (l : List VRow) : Prop := l.Pairwise fun x y => ltB x.key y.key = true
theorem asc_of : ∀ {l : List VRow}, ascB l = true → Asc l := by
  intro l h
  rw [ascB_iff] at h
  have key : ∀ (n i : Nat) (x y : VRow), l[i]? = some x → l[i + 1 + n]? = some y → ltB x.key y.key = true := by
    intro n
    induction n with
    | zero => intro i x y hx hy; exact h i x y hx hy
    | succ n ih =>
      intro i x y hx hy
      have hlt : i + 1 + n < l.length := by have := (List.getElem?_eq_some_iff.1 hy).1; omega
      obtain ⟨z, hz⟩ : ∃ z, l[i + 1 + n]? = some z := ⟨_, List.getElem?_eq_getElem hlt⟩
      exact ltB_trans (ih i x z hx hz) (h (i + 1 + n) z y hz (by rw [show i + 1 + n + 1 = i + 1 + (n + 1) by omega]; exact hy))
  rw [Asc, List.pairwise_iff_getElem]
  intro i j hi hj hij
  exact key (j - i - 1) i _ _ (List.getElem?_eq_getElem hi) (by rw [show i + 1 + (j - i - 1) = j by omega]; exact List.getElem?_eq_getElem hj)
theorem wo_split (k : List UInt8) : ∀ l, Asc l → wo k l = l.filter (fun x => ltB x.key k) ++ l.filter (fun x => ltB k x.key)
  | [], _ => rfl
  | x :: l, h => by
    have hl := List.pairwise_cons.1 h
    have ih := wo_split k l hl.2
    by_cases h1 : ltB x.key k = true
    · have h2 : ltB k x.key = false := ltB_asymm h1
      have h3 : x.key ≠ k := fun e => by rw [e, ltB_irrefl] at h1; cases h1
      unfold wo at ih ⊢
      simp [List.filter_cons, h1, h2, h3, ih]
    · have h1f : ltB x.key k = false := by simpa using h1
      have hall : ∀ y ∈ l, ltB k y.key = true := fun y hy => by
        by_cases he : x.key = k
        · rw [← he]; exact hl.1 y hy
        · exact ltB_trans (ltB_tri he h1f) (hl.1 y hy)
      have e1 : l.filter (fun x => ltB x.key k) = [] := List.filter_eq_nil_iff.2 fun y hy => by rw [ltB_asymm (hall y hy)]; simp
      rw [e1, List.nil_append] at ih
      unfold wo at ih ⊢
      by_cases he : x.key = k
      · simp [List.filter_cons, he, ltB_irrefl, ih, e1]
      · have h4 := ltB_tri he h1f
        simp [List.filter_cons, h1f, he, h4, ih, e1]
theorem one_split {l : List VRow} (h : Asc l) (r : Rec) (o : Int) (hk : r.keyed = true) (hd : r.dead = false) : oneR l r o = l.filter (fun x => ltB x.key r.key) ++ [rowOf r o] ++ l.filter (fun x => ltB r.key x.key) := by
  unfold oneR
  rw [if_neg (by rw [hk]; simp), if_neg (by rw [hd]; simp), wo_split r.key l h]
  have hn : atK r.key l = (l.filter (fun x => ltB x.key r.key)).length := by unfold atK; rw [List.countP_eq_length_filter]
  rw [hn, List.take_left' rfl, List.drop_left' rfl]
theorem one_asc {l : List VRow} (h : Asc l) (r : Rec) (o : Int) : Asc (oneR l r o) := by
  by_cases hk : r.keyed = true
  · by_cases hd : r.dead = true
    · unfold oneR
      rw [if_neg (by rw [hk]; simp), if_pos hd]
      exact h.filter _
    · rw [one_split h r o hk (by simpa using hd)]
      rw [List.append_assoc]
      refine List.pairwise_append.2 ⟨h.filter _, List.pairwise_cons.2 ⟨fun y hy => ?_, h.filter _⟩, fun x hx y hy => ?_⟩
      · have := (List.mem_filter.1 hy).2
        exact this
      · have hx := (List.mem_filter.1 hx).2
        rcases List.mem_cons.1 hy with rfl | hy
        · exact hx
        · exact ltB_trans hx (List.mem_filter.1 hy).2
  · unfold oneR
    rw [if_pos (by simpa using hk)]
    exact h
theorem one_mem {l : List VRow} (h : Asc l) (r : Rec) (o : Int) (hk : r.keyed = true) (x : VRow) : x ∈ oneR l r o ↔ (x ∈ l ∧ x.key ≠ r.key) ∨ (r.dead = false ∧ x = rowOf r o) := by
  have hw : x ∈ wo r.key l ↔ x ∈ l ∧ x.key ≠ r.key := by unfold wo; simp
  by_cases hd : r.dead = true
  · unfold oneR
    rw [if_neg (by rw [hk]; simp), if_pos hd, hw]
    simp [hd]
  · have hd : r.dead = false := by simpa using hd
    rw [one_split h r o hk hd]
    rw [wo_split r.key l h] at hw
    simp only [List.mem_append, List.mem_cons, List.not_mem_nil, or_false] at hw ⊢
    constructor
    · rintro ((h1 | h1) | h1)
      · exact .inl (hw.1 (.inl h1))
      · exact .inr ⟨hd, h1⟩
      · exact .inl (hw.1 (.inr h1))
    · rintro (h1 | ⟨_, h1⟩)
      · rcases hw.2 h1 with h2 | h2
        · exact .inl (.inl h2)
        · exact .inr h2
      · exact .inl (.inr h1)
/-- Two ascending lists of the same members are one. -/
theorem asc_ext : ∀ {l m : List VRow}, Asc l → Asc m → (∀ x, x ∈ l ↔ x ∈ m) → l = m
  | [], [], _, _, _ => rfl
  | [], y :: m, _, _, h => by have := (h y).2 (by simp); cases this
  | x :: l, [], _, _, h => by have := (h x).1 (by simp); cases this
  | x :: l, y :: m, hl, hm, h => by
    have h1 := List.pairwise_cons.1 hl
    have h2 := List.pairwise_cons.1 hm
    have hxy : x = y := by
      rcases List.mem_cons.1 ((h x).1 (by simp)) with e | hx
      · exact e
      · rcases List.mem_cons.1 ((h y).2 (by simp)) with e | hy
        · exact e.symm
        · have := ltB_trans (h1.1 y hy) (h2.1 x hx)
          rw [ltB_irrefl] at this; cases this
    subst hxy
    rw [asc_ext h1.2 h2.2 fun z => ?_]
    constructor
    · intro hz
      rcases List.mem_cons.1 ((h z).1 (List.mem_cons_of_mem _ hz)) with e | hz'
      · subst e; have := h1.1 z hz; rw [ltB_irrefl] at this; cases this
      · exact hz'
    · intro hz
      rcases List.mem_cons.1 ((h z).2 (List.mem_cons_of_mem _ hz)) with e | hz'
      · subst e; have := h2.1 z hz; rw [ltB_irrefl] at this; cases this
      · exact hz'
theorem fold_asc (base : Int) (rs : List Rec) : ∀ {l : List VRow}, Asc l → Asc (foldR base l rs) := by
  induction rs with
  | nil => intro l h; exact h
  | cons r rs ih => intro l h; exact ih (one_asc h r _)
end Go.Proofs.Ytlanghikmccmbaa
/- law 36, Apply, plain: the rows that a batch leaves, by what it touched and what is fresh. -/
namespace Go.Proofs.Ytlanghikmccmbaa
set_option linter.unusedVariables false
set_option linter.unusedSimpArgs false
/-- The keys that a batch's records name; the rows that they leave. -/
def touchS (T : List (List UInt8)) (r : Rec) : List (List UInt8) := if r.keyed = false then T else T ++ [r.key]
def freshS (base : Int) (F : List VRow) (r : Rec) : List VRow := if r.keyed = false then F else if r.dead = true then wo r.key F else wo r.key F ++ [rowOf r (base + r.delta)]
def touchR (rs : List Rec) : List (List UInt8) := rs.foldl touchS []
def freshR (base : Int) (rs : List Rec) : List VRow := rs.foldl (freshS base) []
theorem touchR_snoc (rs : List Rec) (n : Nat) (r : Rec) (hr : rs[n]? = some r) : touchR (rs.take (n + 1)) = touchS (touchR (rs.take n)) r := by
  rw [List.take_add_one, hr]; unfold touchR; rw [Option.toList_some, List.foldl_append]; rfl
theorem freshR_snoc (base : Int) (rs : List Rec) (n : Nat) (r : Rec) (hr : rs[n]? = some r) : freshR base (rs.take (n + 1)) = freshS base (freshR base (rs.take n)) r := by
  rw [List.take_add_one, hr]; unfold freshR; rw [Option.toList_some, List.foldl_append]; rfl
theorem wo_mem (k : List UInt8) (l : List VRow) (x : VRow) : x ∈ wo k l ↔ x ∈ l ∧ x.key ≠ k := by unfold wo; simp
structure ApInv (l cur : List VRow) (T : List (List UInt8)) (F : List VRow) : Prop where
  asc : Asc cur
  mem : ∀ x, x ∈ cur ↔ (x ∈ l ∧ x.key ∉ T) ∨ x ∈ F
  fresh : ∀ x ∈ F, x.key ∈ T
  uniq : F.Pairwise fun x y => x.key ≠ y.key
theorem ApInv.step {l cur : List VRow} {T : List (List UInt8)} {F : List VRow} (h : ApInv l cur T F) (base : Int) (r : Rec) : ApInv l (oneR cur r (base + r.delta)) (touchS T r) (freshS base F r) := by
  by_cases hk : r.keyed = true
  · have e1 : touchS T r = T ++ [r.key] := by unfold touchS; rw [if_neg (by rw [hk]; simp)]
    have hu : (wo r.key F).Pairwise fun x y => x.key ≠ y.key := h.uniq.filter _
    by_cases hd : r.dead = true
    · have e2 : freshS base F r = wo r.key F := by unfold freshS; rw [if_neg (by rw [hk]; simp), if_pos hd]
      refine ⟨one_asc h.asc _ _, fun x => ?_, fun x hx => ?_, ?_⟩
      · rw [one_mem h.asc r _ hk, h.mem, e1, e2, wo_mem]
        simp only [hd, List.mem_append, List.mem_cons, List.not_mem_nil, or_false, not_or]
        constructor
        · rintro (⟨(⟨h1, h2⟩ | h1), h3⟩ | ⟨h1, _⟩)
          · exact .inl ⟨h1, h2, h3⟩
          · exact .inr ⟨h1, h3⟩
          · cases h1
        · rintro (⟨h1, h2, h3⟩ | ⟨h1, h3⟩)
          · exact .inl ⟨.inl ⟨h1, h2⟩, h3⟩
          · exact .inl ⟨.inr h1, h3⟩
      · rw [e1]; rw [e2, wo_mem] at hx
        exact List.mem_append_left _ (h.fresh x hx.1)
      · rw [e2]; exact hu
    · have hd' : r.dead = false := by simpa using hd
      have e2 : freshS base F r = wo r.key F ++ [rowOf r (base + r.delta)] := by unfold freshS; rw [if_neg (by rw [hk]; simp), if_neg hd]
      refine ⟨one_asc h.asc _ _, fun x => ?_, fun x hx => ?_, ?_⟩
      · rw [one_mem h.asc r _ hk, h.mem, e1, e2]
        simp only [hd', List.mem_append, List.mem_cons, List.not_mem_nil, or_false, not_or, wo_mem]
        constructor
        · rintro (⟨(⟨h1, h2⟩ | h1), h3⟩ | ⟨_, h1⟩)
          · exact .inl ⟨h1, h2, h3⟩
          · exact .inr (.inl ⟨h1, h3⟩)
          · exact .inr (.inr h1)
        · rintro (⟨h1, h2, h3⟩ | ⟨h1, h3⟩ | h1)
          · exact .inl ⟨.inl ⟨h1, h2⟩, h3⟩
          · exact .inl ⟨.inr h1, h3⟩
          · exact .inr ⟨trivial, h1⟩
      · rw [e1]
        rw [e2] at hx
        simp only [List.mem_append, List.mem_cons, List.not_mem_nil, or_false, wo_mem] at hx
        rcases hx with hx | rfl
        · exact List.mem_append_left _ (h.fresh x hx.1)
        · exact List.mem_append_right _ (by simp [rowOf])
      · rw [e2]
        refine List.pairwise_append.2 ⟨hu, List.pairwise_singleton _ _, fun x hx y hy => ?_⟩
        rw [wo_mem] at hx
        have hy : y = rowOf r (base + r.delta) := by simpa using hy
        rw [hy]; exact hx.2
  · have hk' : r.keyed = false := by simpa using hk
    have e1 : touchS T r = T := by unfold touchS; rw [if_pos hk']
    have e2 : freshS base F r = F := by unfold freshS; rw [if_pos hk']
    have e3 : oneR cur r (base + r.delta) = cur := by unfold oneR; rw [if_pos hk']
    rw [e1, e2, e3]; exact h
theorem apinv_fold (base : Int) (l : List VRow) : ∀ (rs : List Rec) (cur : List VRow) (T : List (List UInt8)) (F : List VRow), ApInv l cur T F → ApInv l (foldR base cur rs) (rs.foldl touchS T) (rs.foldl (freshS base) F)
  | [], _, _, _, h => h
  | r :: rs, cur, T, F, h => apinv_fold base l rs _ _ _ (h.step base r)
theorem apinv {l : List VRow} (h : Asc l) (base : Int) (rs : List Rec) : ApInv l (foldR base l rs) (touchR rs) (freshR base rs) :=
  apinv_fold base l rs l [] [] ⟨h, fun x => by simp, fun x hx => by simp at hx, .nil⟩
/-- **What the program makes is what the document says:** rows of untouched keys and fresh ones, sorted. -/
theorem fold_sorted {l s : List VRow} (h : Asc l) (base : Int) (rs : List Rec) (hs : Asc s) (hm : ∀ x, x ∈ s ↔ (x ∈ l ∧ x.key ∉ touchR rs) ∨ x ∈ freshR base rs) : s = foldR base l rs :=
  asc_ext hs (apinv h base rs).asc fun x => by rw [hm, (apinv h base rs).mem]
end Go.Proofs.Ytlanghikmccmbaa
/- law 36, the document's Apply: rows without a key's. -/
namespace Go.Proofs.Ytlanghikmccmbaa
open Go.ChangeShapes Go.WideShapes Go.ChangeAt Go.RowKit
set_option linter.unusedVariables false
set_option linter.unusedSimpArgs false
structure WoRet (w w' : World) (x : Ending) (l : List VRow) (n : Nat) : Prop where
  out : ∃ a cap, x = .returned (.tuple #[.slice a l.length cap, .int .i64 n]) ∧ VRowsAt w' a l ∧ More w w' ∧ (l.length ≤ cap ∧ cap ≤ maxLen) ∧ From w.heap.size a l
end Go.Proofs.Ytlanghikmccmbaa
/- law 36, the document's Apply: a record's part. -/
namespace Go.Proofs.Ytlanghikmccmbaa
open Go.ChangeShapes Go.WideShapes Go.ChangeAt Go.RowKit
set_option linter.unusedVariables false
set_option linter.unusedSimpArgs false
end Go.Proofs.Ytlanghikmccmbaa
/- law 36, the document's Apply: a record's part, the walk. -/
namespace Go.Proofs.Ytlanghikmccmbaa
open Go.ChangeShapes Go.WideShapes Go.ChangeAt Go.RowKit
set_option linter.unusedVariables false
set_option linter.unusedSimpArgs false
theorem more_top (w : World) (L : List (Array Obj)) (n k : Nat) (e : Array Obj) : More (wd w L n) (wd w (e :: L) k) := ⟨e, k, rfl⟩
/-- Rows, handed back (with room). -/
structure OneRet (w w' : World) (x : Ending) (a0 : Option Addr) (l0 l : List VRow) : Prop where
  out : ∃ a cap, x = .returned (.slice a l.length cap) ∧ VRowsAt w' a l ∧ More w w' ∧ (l.length ≤ cap ∧ cap ≤ maxLen) ∧ ∀ B, B ≤ w.heap.size → From B a0 l0 → From B a l
end Go.Proofs.Ytlanghikmccmbaa
