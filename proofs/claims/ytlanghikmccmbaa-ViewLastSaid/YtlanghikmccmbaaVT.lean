/- law 36, Apply: what the two maps read as; the rows collected; sorted: plain laws. -/
import Derived.Test.YtlanghikmccmbaaMI
import Derived.Test.YtlanghikmccmbaaVN
import Derived.Sort.KeysCollected
import Derived.Lib.Bytealg
import Derived.Test.YtlanghikmccmbaaVQ
import Derived.Test.YtlanghikmccmbaaVS
import Derived.Test.YtlanghikmccmbaaShelf
import Derived.Shelf.SlSortCmp.NoneTotal
namespace Go.Proofs.Ytlanghikmccmbaa
open Go.RowKit Go.Maps Go.Sort
set_option linter.unusedVariables false
set_option linter.unusedSimpArgs false
def tElem : Value → Option (DataW VRow × List MemPlace)
  | .bool b => some (.lit (.bool b), [])
  | _ => none
def rowOfL : List Value → Option VRow
  | [.string k, .string x, .int .i64 o, .int .i64 t] => some ⟨k.data.toList, x.data.toList, o, t⟩
  | _ => none
def fElem : Value → Option (DataW VRow × List MemPlace)
  | .agg c => (rowOfL c.toList).map fun x => (.held x, [])
  | _ => none
abbrev rowV (x : VRow) : Value := .agg #[.string (str x.key), .string (str x.value), .int .i64 x.offset, .int .i64 x.time]
theorem tElem_inv {v : Value} {b : Bool} {ps : List MemPlace} (h : tElem v = some (.lit (.bool b), ps)) : v = .bool b := by
  cases v <;> simp [tElem] at h
  rw [h.1]
theorem fElem_mk (x : VRow) : fElem (rowV x) = some (.held x, []) := by
  obtain ⟨k, v, o, t⟩ := x
  simp [fElem, rowV, rowOfL, str]
theorem fElem_inv {v : Value} {y : DataW VRow × List MemPlace} (h : fElem v = some y) : ∃ x, v = rowV x ∧ y.1 = .held x := by
  cases v <;> simp [fElem] at h
  rename_i c
  obtain ⟨x, hx, rfl⟩ := h
  refine ⟨x, ?_, rfl⟩
  have hc : c = c.toList.toArray := by simp
  rw [hc]
  generalize c.toList = l at hx
  unfold rowOfL at hx
  split at hx
  · cases hx
    simp [rowV, str]
  · cases hx
theorem mapb_mono {H : Type} {P : Program} {k : TypeId} {R : Value → Option (DataW H × List MemPlace)} {n m : Nat} {D : DataW H} {o : Obj} (h : MapB P k R n D o) (hn : n ≤ m) : MapB P k R m D o := ⟨fun W b hb => (h.own W b hb).mono hn, h.sort⟩
theorem sameK (a b : List UInt8) : (Lit.string a).sameKey (.string b) = decide (a = b) := by
  by_cases h : a = b <;> simp [Lit.sameKey, h]
structure TouchD (D : DataW VRow) (T : List (List UInt8)) : Prop where
  map : IsMap D
  at' : ∀ k, D.atKey (.string k) (.lit (.bool false)) = .lit (.bool (decide (k ∈ T)))
theorem TouchD.made : TouchD (.map []) [] := ⟨isMap_empty, fun k => by simp [DataW.atKey]⟩
theorem TouchD.put {D : DataW VRow} {T : List (List UInt8)} (h : TouchD D T) (k : List UInt8) : TouchD (D.put (.string k) (.lit (.bool true))) (T ++ [k]) := by
  refine ⟨h.map.put _ _, fun k' => ?_⟩
  by_cases hk : k' = k
  · subst hk
    rw [atKey_put_same h.map (show WideAt.IsKeyLit (.string _) from trivial)]; simp
  · rw [atKey_put_other (fun e => hk (by simpa using e)), h.at']
    simp [hk]
def findK (k : List UInt8) (F : List VRow) : Option VRow := F.find? fun x => decide (x.key = k)
theorem findK_some {k : List UInt8} {F : List VRow} {x : VRow} (h : findK k F = some x) : x ∈ F ∧ x.key = k := ⟨List.mem_of_find?_eq_some h, by simpa using List.find?_some h⟩
theorem findK_mem {k : List UInt8} {F : List VRow} {x : VRow} (h : x ∈ F) (hk : x.key = k) : ∃ y, findK k F = some y := by
  cases hf : findK k F with
  | some y => exact ⟨y, rfl⟩
  | none => exact absurd (List.find?_eq_none.1 hf x h) (by simp [hk])
theorem findK_wo_same (k : List UInt8) (F : List VRow) : findK k (wo k F) = none := List.find?_eq_none.2 fun x hx => by simpa using ((wo_mem k F x).1 hx).2
theorem findK_wo_other {k k' : List UInt8} (hk : k' ≠ k) : ∀ F : List VRow, findK k' (wo k F) = findK k' F
  | [] => rfl
  | x :: F => by
    have ih := findK_wo_other hk F
    unfold findK wo at *
    by_cases h1 : x.key = k
    · have h2 : ¬ x.key = k' := fun e => hk (e.symm.trans h1)
      rw [List.filter_cons, if_neg (by simp [h1]), List.find?_cons, ih]
      simp [h2]
    · rw [List.filter_cons, if_pos (by simp [h1]), List.find?_cons, List.find?_cons, ih]
theorem findK_snoc (k : List UInt8) (F : List VRow) (x : VRow) : findK k (F ++ [x]) = (findK k F).or (if x.key = k then some x else none) := by
  unfold findK
  rw [List.find?_append]
  by_cases h : x.key = k <;> simp [h]
structure FreshD (D : DataW VRow) (F : List VRow) : Prop where
  map : IsMap D
  at' : ∀ k z, D.atKey (.string k) z = match findK k F with | some x => .held x | none => z
theorem FreshD.made : FreshD (.map []) [] := ⟨isMap_empty, fun k z => by simp [DataW.atKey, findK]⟩
theorem FreshD.del {D : DataW VRow} {F : List VRow} (h : FreshD D F) (k : List UInt8) : FreshD (D.del (.string k)) (wo k F) := by
  refine ⟨h.map.del _, fun k' z => ?_⟩
  by_cases hk : k' = k
  · subst hk
    rw [atKey_del_same, findK_wo_same]
  · rw [atKey_del_other (fun e => hk (by simpa using e)), h.at', findK_wo_other hk]
theorem FreshD.put {D : DataW VRow} {F : List VRow} (h : FreshD D F) (x : VRow) : FreshD (D.put (.string x.key) (.held x)) (wo x.key F ++ [x]) := by
  refine ⟨h.map.put _ _, fun k' z => ?_⟩
  rw [findK_snoc]
  by_cases hk : k' = x.key
  · subst hk
    rw [atKey_put_same h.map (show WideAt.IsKeyLit (.string _) from trivial), findK_wo_same]; simp
  · rw [atKey_put_other (fun e => hk (by simpa using e)), h.at', findK_wo_other hk]
    have : ¬ x.key = k' := fun e => hk e.symm
    rw [if_neg this]
    cases findK k' F <;> rfl
theorem FreshD.has {D : DataW VRow} {F : List VRow} (h : FreshD D F) {x : VRow} (hx : x ∈ F) : Maps.has D (.string x.key) = true := by
  obtain ⟨y, hy⟩ := findK_mem hx rfl
  exact has_true_of_atKey (y := .held y) fun z => by rw [h.at', hy]
theorem FreshD.told {D : DataW VRow} {F : List VRow} (h : FreshD D F) {k : List UInt8} {y : DataW VRow} (hat : ∀ z, D.atKey (.string k) z = y) : ∃ x, x ∈ F ∧ x.key = k ∧ y = .held x := by
  cases hf : findK k F with
  | some x => exact ⟨x, (findK_some hf).1, (findK_some hf).2, by rw [← hat .nil, h.at', hf]⟩
  | none =>
    have e1 := hat .nil
    have e2 := hat (.lit (.bool true))
    rw [h.at', hf] at e1 e2
    rw [← e1] at e2; cases e2
/-- The rows collected: those of F whose keys are no longer to come. -/
structure ColR (F A : List VRow) (left : Lit → Bool) : Prop where
  mem : ∀ x, x ∈ A ↔ x ∈ F ∧ left (.string x.key) = false
  uniq : A.Pairwise fun x y => x.key ≠ y.key
theorem ColR.start {D : DataW VRow} {F : List VRow} (h : FreshD D F) : ColR F [] (Maps.has D) := ⟨fun x => ⟨fun hx => (by cases hx), fun h1 => (by have h2 := h1.2; rw [h.has h1.1] at h2; cases h2)⟩, .nil⟩
theorem ColR.step {F A : List VRow} {left : Lit → Bool} (h : ColR F A left) (hu : F.Pairwise fun x y => x.key ≠ y.key) {x : VRow} (hx : x ∈ F) (hl : left (.string x.key) = true) : ColR F (A ++ [x]) (fun z => left z && !z.sameKey (.string x.key)) := by
  refine ⟨fun y => ?_, List.pairwise_append.2 ⟨h.uniq, List.pairwise_singleton _ _, fun y hy z hz => ?_⟩⟩
  · rw [List.mem_append, h.mem, List.mem_singleton, sameK]
    constructor
    · rintro (⟨h1, h2⟩ | rfl)
      · exact ⟨h1, by rw [h2]; rfl⟩
      · exact ⟨hx, by simp⟩
    · rintro ⟨h1, h2⟩
      by_cases he : y.key = x.key
      · right
        exact Classical.byContradiction fun hne => by
          rcases List.pairwise_iff_getElem.1 hu with hp
          obtain ⟨i, hi, rfl⟩ := List.getElem_of_mem h1
          obtain ⟨j, hj, rfl⟩ := List.getElem_of_mem hx
          rcases Nat.lt_trichotomy i j with hij | hij | hij
          · exact hp i j hi hj hij he
          · subst hij; exact hne rfl
          · exact hp j i hj hi hij he.symm
      · left
        simp [he] at h2
        exact ⟨h1, h2⟩
  · rw [List.mem_singleton] at hz
    subst hz
    intro e
    rw [h.mem, e, hl] at hy
    cases hy.2
theorem ColR.done {F A : List VRow} {left : Lit → Bool} (h : ColR F A left) (hl : ∀ kl, left kl = false) (x : VRow) : x ∈ A ↔ x ∈ F := by rw [h.mem]; simp [hl]
/-! sorted -/
def cmpK (x y : VRow) : Int := Lib.compareBytes x.key y.key
theorem cmpB_lt : ∀ a b : List UInt8, Lib.compareBytes a b < 0 ↔ ltB a b = true
  | [], [] => by simp [Lib.compareBytes, ltB_irrefl]
  | [], b :: bs => by simp [Lib.compareBytes, ltB_nil]
  | a :: u, [] => by simp [Lib.compareBytes, ltB_nil']
  | a :: u, b :: v => by
    rw [Lib.compareBytes, ltB_or, ← cmpB_lt u v]
    by_cases h1 : a < b
    · simp [h1]
    · by_cases h2 : b < a
      · have h3 : ¬ a = b := fun e => h1 (by rw [e] at h2 ⊢; exact h2)
        simp [h1, h2, h3]
      · have h3 : a = b := by rw [u8_lt] at *; rw [u8_eq]; omega
        simp [h3]
theorem ltOf_cmpK (x y : VRow) : ltOf cmpK x y = ltB x.key y.key := by
  unfold ltOf cmpK
  have := cmpB_lt x.key y.key
  cases h : ltB x.key y.key with
  | true => rw [h] at this; simpa using this
  | false => rw [h] at this; simp at this; simpa using this
theorem swo_cmpK : SWO (ltOf cmpK) := by
  refine ⟨fun x => by rw [ltOf_cmpK, ltB_irrefl], fun x y z h1 h2 => by rw [ltOf_cmpK] at *; exact ltB_trans h1 h2, fun x y z h1 h2 => ?_⟩
  rw [ltOf_cmpK] at *
  by_cases e1 : x.key = y.key
  · rw [e1]; exact h2
  · by_cases e2 : y.key = z.key
    · rw [← e2]; exact h1
    · exact ltB_asymm (ltB_trans (ltB_tri e2 h2) (ltB_tri e1 h1))
theorem sorted_asc {d : Array VRow} {l : List VRow} (hs : SortedIn (ltOf cmpK) 0 d.size d) (hp : d.toList.Perm l) (hu : l.Pairwise fun x y => x.key ≠ y.key) : Asc d.toList := by
  have hu2 : d.toList.Pairwise fun x y => x.key ≠ y.key := (hp.pairwise_iff (fun {a b} (h : a.key ≠ b.key) => h.symm)).2 hu
  rw [Asc, List.pairwise_iff_getElem]
  intro i j hi hj hij
  have h1 := hs i j (Nat.zero_le _) hij (by simpa using hj)
  rw [ltOf_cmpK, getElem!_pos d j (by simpa using hj), getElem!_pos d i (by simpa using hi)] at h1
  have h2 := List.pairwise_iff_getElem.1 hu2 i j hi hj hij
  exact ltB_tri (fun e => h2 e.symm) h1
end Go.Proofs.Ytlanghikmccmbaa
/- law 36, Apply: its closure; byKey; the sort of its rows. -/
namespace Go.Proofs.Ytlanghikmccmbaa
open Go.ChangeShapes Go.WideShapes Go.ChangeAt Go.RowKit Go.Sort Go.Maps
set_option linter.unusedVariables false
set_option linter.unusedSimpArgs false
set_option maxRecDepth 100000 in
theorem bykey_any (x y : VRow) (w : World) : Calls Try.prog 59 #[rowV x, rowV y] w fun e w' => e = .returned (.int .i64 (cmpK x y)) ∧ ∃ q os', w' = grow (w.drewN q) os' := by
  have HC := fun W => scmp_any (str x.key) (str y.key) W
  have hcd : Lib.compareBytes (str x.key).data.toList (str y.key).data.toList = cmpK x y := rfl
  rw [hcd] at HC
  obtain ⟨r, hr⟩ : ∃ r, cmpK x y = r := ⟨_, rfl⟩
  rw [hr] at HC ⊢
  clear hcd hr
  have HC := Lib.hid HC
  obtain ⟨xk, xv, xo, xt⟩ := x
  obtain ⟨yk, yv, yo, yt⟩ := y
  dsimp only at HC ⊢
  refine calls_wd ?_
  go_enter Try.func59, Try.ntmps59
  go_wp2_with ((go_at_call 86; ((with_reducible refine (HC.out _).mono ?_); rintro e w1 ⟨rfl, rfl⟩)))
  go_ret
  exact ⟨rfl, 0, _, world_ext (Array.append_assoc ..) rfl rfl rfl rfl⟩
theorem row_agg (w : World) : (isAgg 34).run Try.prog w = .ok true w := Try.isAgg34 w
theorem bykey_enter : ∀ args w, (callFunc 59 args).run Try.prog w = .ok (.enter 59 args) w := enters_of Try.func59 (by kernel_rfl) rfl
theorem bykey_lays (blk off size : Nat) (w : World) : CmpLays Try.prog 59 #[] vrCells 4 cmpK blk off size w := fun m os dk hs x y => bykey_any x y _
structure SrtRet (w w' : World) (e : Ending) (B g cap : Nat) (l s : List VRow) : Prop where
  out : e = .returned (.tuple #[])
  perm : s.Perm l
  asc : (l.Pairwise fun x y => x.key ≠ y.key) → Asc s
  own : w'.ownsRow B 34 4 (.slice (some ⟨g, 0, none⟩) l.length cap) l.length (s.flatMap vrCells)
  grown : w.grownBy w' (some g)
theorem vrCells_one : ∀ x, ∀ v ∈ vrCells x, v.oneCell' = true := fun x u hu => by
  simp only [vrCells, List.mem_cons, List.not_mem_nil, or_false] at hu
  rcases hu with rfl | rfl | rfl | rfl <;> rfl
theorem sort_any (B g cap : Nat) (l : List VRow) (w : World) (h : w.ownsRow B 34 4 (.slice (some ⟨g, 0, none⟩) l.length cap) l.length (l.flatMap vrCells)) (hl : l.length ≤ 1000000) :
    Calls Try.prog 58 #[.slice (some ⟨g, 0, none⟩) l.length cap, .func (.func 59) #[] #[]] w fun e w' => ∃ s, SrtRet w w' e B g cap l s := by
  have hcon := AnyQ.slices_SortFunc Try.sortRow 4 row_agg sz_vrow vrCells vrCells_len vrCells_one cmpK swo_cmpK 59 #[] g 0 cap l.toArray w bykey_enter (bykey_lays g 0 _ w) (holdsK_of_owns vrCells_len (by decide) h) (owns_lt h) (by rw [List.size_toArray]; omega)
  rw [List.size_toArray] at hcon
  refine hcon.mono ?_
  rintro e w' ⟨rfl, d', n, os, hp, hs, rfl⟩
  have hsz : d'.size = l.length := by rw [hp.1, List.size_toArray]
  obtain ⟨k1, k2⟩ := owns_of_sort (n := n) vrCells_len (by decide) h d' hsz os
  have hperm : d'.toList.Perm l := by
    have := hp.2.2
    rw [List.extract_toArray, ← hsz] at this
    simp at this
    rwa [List.take_of_length_le (by simp), List.take_of_length_le (by omega)] at this
  refine ⟨d'.toList, rfl, hperm, fun hu => sorted_asc (by rw [hsz]; exact hs) hperm hu, k1, k2⟩
/-- The closure that strikes the rows of touched keys. -/
theorem touched_any (c b n : Nat) (o : Obj) (D : DataW VRow) (T : List (List UInt8)) (hM : MapB Try.prog 9 tElem n D o) (hD : TouchD D T) (x : VRow) (hx : x.key.length ≤ maxLen) (w : World) (hc : w.cell? ⟨c, 0, none⟩ = some (.map (some b))) (hcs : c < w.heap.size) (hb : w.heap[b]? = some o) :
    Calls Try.prog 57 #[rowV x, .pointer (some ⟨c, 0, none⟩)] w fun e w' => e = .returned (.bool (decide (x.key ∈ T))) ∧ More w w' := by
  have hbs : b < w.heap.size := (Array.getElem?_eq_some_iff.1 hb).1
  have HL := Lib.hid (fun (L : List (Array Obj)) (k : Nat) => map_look (e := 4) (t := 104) hM (string_keyed Try.underlying9) Try.underlying104 (z := .bool false) (fun W => Try.zeroValue4 W) (zd := .lit (.bool false)) (zp := []) rfl (key := .string (str x.key)) (kl := .string x.key)
    (WideMaps.keyOf_string_mk Try.underlying9 (by rw [str_size]; exact hx)) (wd w L k) b (by rw [wd_old w L k b hbs]; exact hb))
  have hq : ∀ (L : List (Array Obj)) (k : Nat), (Instr.lookup 104 (.map (some b)) (.string (str x.key)) false).run Try.prog (wd w L k) = .ok (.bool (decide (x.key ∈ T))) (wd w L k) := fun L k => by
    obtain ⟨v, ps, h1, h2⟩ := HL.out L k
    rw [hD.at'] at h2
    rw [tElem_inv h2] at h1
    exact h1
  clear HL hM hb hx
  obtain ⟨r, hr⟩ : ∃ r, decide (x.key ∈ T) = r := ⟨_, rfl⟩
  rw [hr] at hq ⊢
  clear hr hD
  obtain ⟨xk, xv, xo, xt⟩ := x
  dsimp only at hq
  refine calls_wd ?_
  go_enter Try.func57, Try.ntmps57
  go_wp2
  go_ret
  exact ⟨rfl, more_wd _ _ _⟩
end Go.Proofs.Ytlanghikmccmbaa
/- law 36, Apply: Clone, DeleteFunc, SortFunc at its rows, whatever the slice; an append while a map's iterator stands between. -/
namespace Go.Proofs.Ytlanghikmccmbaa
open Go.ChangeShapes Go.WideShapes Go.ChangeAt Go.RowKit Go.Sort Go.Maps
set_option linter.unusedVariables false
set_option linter.unusedSimpArgs false
theorem vr_one (l : List VRow) : ∀ u ∈ l.flatMap vrCells, u.oneCell' = true := by
  intro u hu
  obtain ⟨r, _, h⟩ := List.mem_flatMap.1 hu
  exact vrCells_one r u h
set_option maxRecDepth 100000 in
set_option maxHeartbeats 800000 in
theorem clone_rows (a : Option Addr) (cap : Nat) (l : List VRow) (w : World) (h : VRowsAt w a l) (hl : l.length ≤ 1000000) : Calls Try.prog 37 #[.slice a l.length cap] w fun e w' => ∃ v', e = .returned v' ∧ Made w w' 34 4 v' l.length (l.flatMap vrCells) := by
  obtain ⟨i0, hi, hz0, hz1, hz2⟩ := info_parts info_vrow
  have HV := Lib.hid h
  have q1 := fun (w : World) (a : Option Addr) (n c : Nat) => Lib.run_eql_slice_nil (P := Try.prog) w 30 34 a n c 0 0 Try.underlying30
  have HONE := Lib.hid (vr_one l)
  cases a with
  | none =>
    have hl0 : l = [] := by
      by_cases h0 : l = []
      · exact h0
      · obtain ⟨b, off, h1, _⟩ := h.out h0; cases h1
    subst hl0
    clear h
    refine calls_wd ?_
    go_enter Try.func37, Try.ntmps37
    go_wp2
    go_ret
    exact ⟨_, rfl, by rw [← wd_empty]; exact made_of (rowIn_nil _ _ _ _ _)⟩
  | some ad =>
    clear h
    have HLIT := Lib.hid (rowIn_lit w.heap.size [] #[] 34 4 0 (by decide) rfl)
    obtain ⟨X, hX⟩ : ∃ X, l.flatMap vrCells = X := ⟨_, rfl⟩
    have HRD := Lib.hid (fun W hm => hX ▸ (HV.out.more (w' := W) hm).rd vrCells_len cap)
    rw [hX] at HONE ⊢
    obtain ⟨N, hN⟩ : ∃ N, l.length = N := ⟨_, rfl⟩
    rw [hN] at HRD hl ⊢
    clear hX HV
    refine calls_wd ?_
    go_enter Try.func37, Try.ntmps37
    go_wp2_with (at_builtin; refine wp_append_src (L := []) rfl _ _ _ rfl 34 i0 _ 4 48 Try.underlying30 hi hz0 hz1 hz2 rfl (by decide) (m := #[.cells #[] 34]) (n := w.drawn) rfl (.slice (some ⟨sz w.heap.size [], 0, none⟩) 0 0) 0 [] rfl HLIT.out (.slice (some ad) N cap) N X rfl (HRD.out _ (more_wd _ _ _)) HONE.out (by unfold maxLen; omega) (by omega) ?_; intro v' m' hrow')
    go_ret
    exact ⟨_, rfl, made_of (by have h := hrow'; simp only [Nat.zero_add, List.nil_append] at h; exact h)⟩
/-- A slice of rows handed back in a row that the call may have turned, from block B on. -/
structure OwnRet (w w' : World) (e : Ending) (B : Nat) (l : List VRow) : Prop where
  out : ∃ a c row, e = .returned (.slice a l.length c) ∧ w'.ownsRow B 34 4 (.slice a l.length c) l.length (l.flatMap vrCells) ∧ w.grownBy w' row ∧ ∀ k, row = some k → B ≤ k
theorem owns_cases {w : World} {B n : Nat} {v : Value} {l : List VRow} (h : w.ownsRow B 34 4 v l.length (l.flatMap vrCells)) : (v = .slice none 0 0 ∧ l = []) ∨ ∃ g cap, v = .slice (some ⟨g, 0, none⟩) l.length cap ∧ B ≤ g := by
  rcases h.2 with ⟨h1, h2⟩ | ⟨g, cap, cur, hv, hg, _⟩
  · exact .inl ⟨h1, List.eq_nil_of_length_eq_zero h2⟩
  · exact .inr ⟨g, cap, hv, hg⟩
set_option maxRecDepth 100000 in
theorem delf_nil (f : Nat) (lb : Array Value) (w : World) (he : ∀ args w, (callFunc f args).run Try.prog w = .ok (.enter f args) w) : Calls Try.prog 36 #[.slice none 0 0, .func (.func f) #[] lb] w fun e w' => e = .returned (.slice none 0 0) ∧ More w w' := by
  have HIX := Lib.hid (fun (W : World) => show Calls Try.prog 67 #[.slice none 0 0, .func (.func f) #[] lb] W (fun e w' => e = .returned (.int .i64 (-1)) ∧ More W w') from ixf_any f lb (fun _ => false) 0 none 0 [] W (RowAt.nil _) (by decide) ⟨he, fun W x hx => by cases hx⟩)
  clear he
  refine calls_wd ?_
  go_enter Try.func36, Try.ntmps36
  go_wp2_with ((go_at_call 67; ((with_reducible refine (HIX.out _).mono ?_); rintro e w1 ⟨rfl, x1, n1, rfl⟩)))
  go_ret
  exact ⟨rfl, more_wd _ _ _⟩
theorem delf2 (f : Nat) (lb : Array Value) (p : VRow → Bool) (B : Nat) (v : Value) (l : List VRow) (w : World) (h : w.ownsRow B 34 4 v l.length (l.flatMap vrCells)) (hl : l.length ≤ 1000000) (hp : ∀ row, B ≤ row → PredOk f lb p row l w) (he : ∀ args w, (callFunc f args).run Try.prog w = .ok (.enter f args) w) :
    Calls Try.prog 36 #[v, .func (.func f) #[] lb] w fun e w' => OwnRet w w' e B (keepR p l) := by
  rcases owns_cases (n := 0) h with ⟨rfl, rfl⟩ | ⟨g, cap, rfl, hg⟩
  · refine (delf_nil f lb w he).mono ?_
    rintro e w' ⟨rfl, hm⟩
    exact ⟨none, 0, none, rfl, owns_more h hm, grown_more hm _, fun k hk => by cases hk⟩
  · refine (delf_any f lb p B g cap l w h hl (hp g hg)).mono ?_
    rintro e w' ⟨h1, h2, h3⟩
    exact ⟨_, _, _, h1, h2, h3, fun k hk => by cases hk; exact hg⟩
structure SrtRet2 (w w' : World) (e : Ending) (B : Nat) (v : Value) (l s : List VRow) : Prop where
  out : e = .returned (.tuple #[])
  perm : s.Perm l
  asc : (l.Pairwise fun x y => x.key ≠ y.key) → Asc s
  own : w'.ownsRow B 34 4 v l.length (s.flatMap vrCells)
  grown : w.grownBy w' v.ownBlock
theorem sort2 (B : Nat) (v : Value) (l : List VRow) (w : World) (h : w.ownsRow B 34 4 v l.length (l.flatMap vrCells)) (hl : l.length ≤ 1000000) :
    Calls Try.prog 58 #[v, .func (.func 59) #[] #[]] w fun e w' => ∃ s, SrtRet2 w w' e B v l s := by
  rcases owns_cases (n := 0) h with ⟨rfl, rfl⟩ | ⟨g, cap, rfl, hg⟩
  · refine (AnyF.slices_SortFunc_none (P := Try.prog) (ρ := Try.sortRow_ren) { Try.sortRow with } none 0 (.func (.func 59) #[] #[]) w).mono ?_
    rintro e w' ⟨rfl, rfl⟩
    exact ⟨[], rfl, .refl _, fun _ => .nil, h, grown_refl _ _⟩
  · refine (sort_any B g cap l w h hl).mono ?_
    rintro e w' ⟨s, h1, h2, h3, h4, h5⟩
    exact ⟨s, h1, h2, h3, h4, h5⟩
/-! ### an append while a map's iterator stands between -/
abbrev VOwn (W w : World) (L : List (Array Obj)) (v : Value) (l : List VRow) : Prop := W.ownsRow (sz w.heap.size (shape L)) 34 4 v l.length (l.flatMap vrCells)
theorem vown_iter {w : World} {L : List (Array Obj)} {e Y : Array Obj} {n n' : Nat} {I J : Obj} (hI : ∃ m s c d, I = .mapIter m s c d) {v : Value} {l : List VRow} (h : VOwn (wd w (e :: #[I] :: Y :: L) n) w L v l) : VOwn (wd w (e :: #[J] :: Y :: L) n') w L v l := by
  obtain ⟨m, s, c, d, rfl⟩ := hI
  obtain ⟨h1, h2⟩ := h
  refine ⟨h1, ?_⟩
  rcases h2 with h2 | ⟨g, cap, cur, hv, hg, he, r⟩
  · exact .inl h2
  · refine .inr ⟨g, cap, cur, hv, hg, ?_, r⟩
    have hm := mid_at w (.mapIter m s c d) (Y :: L) n [e]
    have hne : g ≠ sz w.heap.size (shape (Y :: L)) := fun hk => by
      subst hk
      rw [List.cons_append, List.nil_append] at hm
      rw [hm] at he; cases he
    show (hp w.heap (e :: #[J] :: Y :: L))[g]? = _
    have e9 : hp w.heap (e :: #[J] :: Y :: L) = _ := (mid_set w (.mapIter m s c d) J (Y :: L) [e]).symm
    rw [e9, Array.getElem?_setIfInBounds_ne (Ne.symm hne)]
    exact he
theorem at_append_map {ops : Array Oper} {rest : List Oper} {o : Oper} {a : Act} {Q : Exit → Act → World → Prop} {w : World} {L : List (Array Obj)} {n : Nat} {e Y : Array Obj} {I : Obj} {W : World} (hW : W = wd w (e :: #[I] :: Y :: L) n) (hI : ∃ m s c d, I = .mapIter m s c d) {v : Value} {l : List VRow} (nl : Nat) (hnl : l.length = nl)
    (hgd : o.guard = none) (s x : Operand) (ho : o.op = .call { callee := .builtin .append, args := #[s, x], argTypes := #[30, 30] })
    (hs : a.eval s = v) (hown : VOwn (wd w (e :: #[I] :: Y :: L) n) w L v l) (y : VRow) (ad : Addr) (c : Nat) (hx : a.eval x = .slice (some ad) 1 c) (hc : ∀ j u, (vrCells y)[j]? = some u → W.cell? (ad.add j) = some u) (hlen : nl ≤ 1000000)
    (h : ∀ (a' : Option Addr) (c' : Nat) (e' Y' : Array Obj) (n' : Nat), Y'.size = Y.size → VOwn (wd w (e' :: #[I] :: Y' :: L) n') w L (.slice a' (nl + 1) c') (l ++ [y]) → wpList Try.prog ops Q rest (a.put o.dst (.slice a' (nl + 1) c')) (wd w (e' :: #[I] :: Y' :: L) n')) :
    wpList Try.prog ops Q (o :: rest) a W := by
  subst hW hnl
  obtain ⟨i0, hi, hz0, hz1, hz2⟩ := info_parts info_vrow
  obtain ⟨m, s', c', d, rfl⟩ := hI
  have hr : ∀ k, v.ownBlock = some k → sz w.heap.size (shape L) ≤ k ∧ k ≠ sz w.heap.size (shape (Y :: L)) := fun k hk => by
    rcases hown.2 with ⟨rfl, _⟩ | ⟨g, cap, cur, rfl, hg, he, _⟩
    · simp [Value.ownBlock] at hk
    · simp only [Value.ownBlock, Option.some.injEq] at hk
      subst hk
      refine ⟨hg, fun hk => ?_⟩
      subst hk
      have hm := mid_at w (.mapIter m s' c' d) (Y :: L) n [e]
      rw [List.cons_append, List.nil_append] at hm
      rw [hm] at he; cases he
  have hbase : sz w.heap.size (shape L) ≤ (wd w (e :: #[.mapIter m s' c' d] :: Y :: L) n).heap.size := by rw [wd_size, shape_cons, shape_cons, shape_cons]; simp only [sz]; omega
  refine wpList_append_own _ hgd s x 30 ho (sz w.heap.size (shape L)) 34 i0 _ 4 48 Try.underlying30 hi hz0 hz1 hz2 rfl (by decide) v _ _ hs hown ad 1 c (vrCells y) hx rfl hc (vrCells_one y) (by unfold maxLen; omega) (by omega) hbase ?_
  intro v' w' hown' hg _
  obtain ⟨e', Y', n', hY, rfl⟩ := grown_iter hg hr
  have e1 : l.flatMap vrCells ++ vrCells y = (l ++ [y]).flatMap vrCells := by simp
  have e2 : l.length + 1 = (l ++ [y]).length := by simp
  rw [e1] at hown'
  obtain ⟨a9, c9, rfl⟩ : ∃ a9 c9, v' = .slice a9 (l.length + 1) c9 := by
    rcases hown'.2 with ⟨_, h0⟩ | ⟨g, cap, cur, hv, _⟩
    · omega
    · exact ⟨_, _, hv⟩
  refine h a9 c9 e' Y' n' hY ?_
  show World.ownsRow _ _ _ _ _ (l ++ [y]).length _
  rw [← e2]
  exact hown'
theorem touched_ok {B c b n : Nat} {o : Obj} {D : DataW VRow} {T : List (List UInt8)} {l : List VRow} (hM : MapB Try.prog 9 tElem n D o) (hD : TouchD D T) (hl : ∀ x ∈ l, x.key.length ≤ maxLen) (w : World) (hc : w.cell? ⟨c, 0, none⟩ = some (.map (some b))) (hcs : c < B) (hcw : c < w.heap.size) (hb : w.heap[b]? = some o) (hbs : b < B) (row : Nat) (hrow : B ≤ row) :
    PredOk 57 #[.pointer (some ⟨c, 0, none⟩)] (fun x => decide (x.key ∈ T)) row l w := by
  refine ⟨enters_of Try.func57 (by kernel_rfl) rfl, fun W x hx hW => ?_⟩
  have hbw := (Array.getElem?_eq_some_iff.1 hb).1
  refine touched_any c b n o D T hM hD x (hl x hx) W ?_ (Nat.lt_of_lt_of_le hcw hW.size) ?_
  · rw [← hc]
    have := hW.block c hcw (fun e => by have := Option.some.inj e; omega)
    simp only [World.cell?, this]
  · rw [hW.block b hbw (fun e => by have := Option.some.inj e; omega)]; exact hb
end Go.Proofs.Ytlanghikmccmbaa
/- law 36, Apply: DeleteFunc and SortFunc in worlds written out in pieces. -/
namespace Go.Proofs.Ytlanghikmccmbaa
open Go.ChangeShapes Go.WideShapes Go.ChangeAt Go.RowKit Go.Sort Go.Maps
set_option linter.unusedVariables false
set_option linter.unusedSimpArgs false
theorem sz_app (B : Nat) (S : List Nat) : ∀ T, sz B S ≤ sz B (T ++ S)
  | [] => Nat.le_refl _
  | x :: T => by have := sz_app B S T; simp only [List.cons_append, sz]; omega
/-- Rows handed back in the piece above L. -/
structure DelW (w w' : World) (e : Ending) (L : List (Array Obj)) (l : List VRow) : Prop where
  out : ∃ (a : Option Addr) (c : Nat) (m : Ext), e = .returned (.slice a l.length c) ∧ w' = wd w (m.e :: L) m.n ∧ rowIn w.heap.size (shape L) m.e 34 4 (.slice a l.length c) l.length (l.flatMap vrCells)
theorem delf_wd {w : World} (A1 L0 : List (Array Obj)) (top : Array Obj) (ot : Obj) {Dt : DataW VRow} {T : List (List UInt8)} {nt n : Nat} (hM : MapB Try.prog 9 tElem nt Dt ot) (hD : TouchD Dt T) (v : Value) (l : List VRow)
    (hrow : rowIn w.heap.size (shape (A1 ++ #[.cells #[.map (some (sz w.heap.size (shape L0)))] 104] :: #[ot] :: L0)) top 34 4 v l.length (l.flatMap vrCells)) (hl : l.length ≤ 1000000) (hk : ∀ x ∈ l, x.key.length ≤ maxLen) :
    Calls Try.prog 36 #[v, .func (.func 57) #[] #[.pointer (some ⟨sz w.heap.size (shape (#[ot] :: L0)), 0, none⟩)]] (wd w (top :: (A1 ++ #[.cells #[.map (some (sz w.heap.size (shape L0)))] 104] :: #[ot] :: L0)) n)
      fun e w' => DelW w w' e (A1 ++ #[.cells #[.map (some (sz w.heap.size (shape L0)))] 104] :: #[ot] :: L0) (keepR (fun x => decide (x.key ∈ T)) l) := by
  have h1 := mid_at w (.cells #[.map (some (sz w.heap.size (shape L0)))] 104) (#[ot] :: L0) n (top :: A1)
  have h2 := mid_at w ot L0 n (top :: (A1 ++ [#[.cells #[.map (some (sz w.heap.size (shape L0)))] 104]]))
  rw [List.cons_append] at h1 h2
  rw [List.append_assoc] at h2
  have hc : (wd w (top :: (A1 ++ #[.cells #[.map (some (sz w.heap.size (shape L0)))] 104] :: #[ot] :: L0)) n).cell? ⟨sz w.heap.size (shape (#[ot] :: L0)), 0, none⟩ = some (.map (some (sz w.heap.size (shape L0)))) := by
    simp only [World.cell?, h1]; rfl
  have hlt1 : sz w.heap.size (shape (#[ot] :: L0)) < sz w.heap.size (shape (A1 ++ #[.cells #[.map (some (sz w.heap.size (shape L0)))] 104] :: #[ot] :: L0)) := by
    rw [shape_append]
    have := sz_app w.heap.size (shape (#[.cells #[.map (some (sz w.heap.size (shape L0)))] 104] :: #[ot] :: L0)) (shape A1)
    have e : sz w.heap.size (shape (#[.cells #[.map (some (sz w.heap.size (shape L0)))] 104] :: #[ot] :: L0)) = sz w.heap.size (shape (#[ot] :: L0)) + 1 := rfl
    omega
  have hlt2 : sz w.heap.size (shape L0) < sz w.heap.size (shape (#[ot] :: L0)) := by
    have e : sz w.heap.size (shape (#[ot] :: L0)) = sz w.heap.size (shape L0) + 1 := rfl
    omega
  refine (delf2 57 _ (fun x => decide (x.key ∈ T)) _ v l _ (owns_of_row hrow) hl (fun row hrw => touched_ok hM hD hk _ hc hlt1 (Array.getElem?_eq_some_iff.1 h1).1 h2 (Nat.lt_trans hlt2 hlt1) row hrw) (enters_of Try.func57 (by kernel_rfl) rfl)).mono ?_
  rintro e w' hs
  obtain ⟨a, c, row, h3, h4, h5, h6⟩ := hs.out
  obtain ⟨m, rfl⟩ := grown_piece (m := 0) h5 h6
  exact ⟨a, c, m, h3, rfl, row_of_owns h4⟩
theorem hp_above (h : Array Obj) {L L' : List (Array Obj)} (hS : shape L' = shape L) {g : Nat} (hg : sz h.size (shape L) ≤ g) : ∀ A : List (Array Obj), (hp h (A ++ L'))[g]? = (hp h (A ++ L))[g]? ∨ (hp h (A ++ L)).size ≤ sz h.size (shape L)
  | [] => .inr (by rw [List.nil_append, hp_size]; exact Nat.le_refl _)
  | x :: A => by
    left
    have hs : (hp h (A ++ L')).size = (hp h (A ++ L)).size := by rw [hp_size, hp_size, shape_append, shape_append, hS]
    show (hp h (A ++ L') ++ x)[g]? = (hp h (A ++ L) ++ x)[g]?
    rw [Array.getElem?_append, Array.getElem?_append, hs]
    by_cases hlt : g < (hp h (A ++ L)).size
    · rw [if_pos hlt, if_pos hlt]
      rcases hp_above h hS hg A with h1 | h1
      · exact h1
      · omega
    · rw [if_neg hlt, if_neg hlt]
theorem vown_shift {w : World} {L L' : List (Array Obj)} {x : Array Obj} {A : List (Array Obj)} {n n' : Nat} {v : Value} {l : List VRow} (hS : shape L' = shape L) (h : VOwn (wd w (x :: A ++ L) n) w L v l) : VOwn (wd w (x :: A ++ L') n') w L' v l := by
  obtain ⟨h1, h2⟩ := h
  refine ⟨h1, ?_⟩
  rcases h2 with h2 | ⟨g, cap, cur, hv, hg, he, r⟩
  · exact .inl h2
  · refine .inr ⟨g, cap, cur, hv, by rw [hS]; exact hg, ?_, r⟩
    rw [← he]
    rcases hp_above w.heap hS hg (x :: A) with h3 | h3
    · exact h3
    · have h4 := (Array.getElem?_eq_some_iff.1 he).1
      exact absurd (Nat.lt_of_lt_of_le h4 h3) (by omega)
/-- The rows sorted, the iterator between. -/
structure SrtW (w w' : World) (x : Ending) (I : Obj) (sy : Nat) (L : List (Array Obj)) (v : Value) (l : List VRow) : Prop where
  out : ∃ (s : List VRow) (e Y : Array Obj) (n : Nat), x = .returned (.tuple #[]) ∧ s.Perm l ∧ ((l.Pairwise fun x y => x.key ≠ y.key) → Asc s) ∧ Y.size = sy ∧ w' = wd w (e :: #[I] :: Y :: L) n ∧ VOwn (wd w (e :: #[I] :: Y :: L) n) w L v s
theorem sort_wd {w : World} {L : List (Array Obj)} {e Y : Array Obj} {I : Obj} (hI : ∃ m s c d, I = .mapIter m s c d) {n : Nat} {v : Value} {l : List VRow} (h : VOwn (wd w (e :: #[I] :: Y :: L) n) w L v l) (hl : l.length ≤ 1000000) :
    Calls Try.prog 58 #[v, .func (.func 59) #[] #[]] (wd w (e :: #[I] :: Y :: L) n) fun x w' => SrtW w w' x I Y.size L v l := by
  obtain ⟨m, s', c', d, rfl⟩ := hI
  have hr : ∀ k, v.ownBlock = some k → sz w.heap.size (shape L) ≤ k ∧ k ≠ sz w.heap.size (shape (Y :: L)) := fun k hk => by
    rcases h.2 with ⟨rfl, _⟩ | ⟨g, cap, cur, rfl, hg, he, _⟩
    · simp [Value.ownBlock] at hk
    · simp only [Value.ownBlock, Option.some.injEq] at hk
      subst hk
      refine ⟨hg, fun hk => ?_⟩
      subst hk
      have hm := mid_at w (.mapIter m s' c' d) (Y :: L) n [e]
      rw [List.cons_append, List.nil_append] at hm
      rw [hm] at he; cases he
  refine (sort2 _ v l _ h hl).mono ?_
  rintro x w' ⟨s, hs⟩
  obtain ⟨e', Y', n', hY, rfl⟩ := grown_iter hs.grown hr
  refine ⟨s, e', Y', n', hs.out, hs.perm, hs.asc, hY, rfl, ?_⟩
  have := hs.own
  rw [← hs.perm.length_eq] at this
  exact this
theorem cell_top (w : World) (L : List (Array Obj)) (n : Nat) (c : Array Value) (t : TypeId) (j : Nat) : (wd w (#[.cells c t] :: L) n).cell? ((⟨sz w.heap.size (shape L), 0, none⟩ : Addr).add j) = c[j]? := by
  rw [addr_add, Nat.zero_add]
  exact wd_cell w L n _ j _ c t (0, 0) rfl rfl
theorem from_owns {W : World} {B B' n c size : Nat} {E : TypeId} {a : Option Addr} {xs : List Value} {l : List VRow} (hB : B' ≤ B) (hl : l.length = n) (h : W.ownsRow B E size (.slice a n c) n xs) : From B' a l := fun hne => by
  rcases h.2 with ⟨_, h0⟩ | ⟨g, cap, cur, hv, hg, _⟩
  · exact absurd (List.eq_nil_of_length_eq_zero (by omega)) hne
  · cases hv; exact ⟨g, 0, rfl, by omega⟩
theorem rows_mem {l KR A F : List VRow} {T : List (List UInt8)} (hK : keepR (fun x => decide (x.key ∈ T)) l = KR) (hA : ∀ x, x ∈ A ↔ x ∈ F) (x : VRow) : x ∈ KR ++ A ↔ (x ∈ l ∧ x.key ∉ T) ∨ x ∈ F := by
  rw [List.mem_append, hA, ← hK]
  unfold keepR
  simp
theorem rows_uniq {l cur KR A F : List VRow} {T : List (List UInt8)} (hl : Asc l) (hI : ApInv l cur T F) (hK : keepR (fun x => decide (x.key ∈ T)) l = KR) (hA : ∀ x, x ∈ A ↔ x ∈ F) (hu : A.Pairwise fun x y => x.key ≠ y.key) : (KR ++ A).Pairwise fun x y => x.key ≠ y.key := by
  have hne : l.Pairwise fun x y => x.key ≠ y.key := hl.imp fun {x y} h e => by rw [e, ltB_irrefl] at h; cases h
  refine List.pairwise_append.2 ⟨by rw [← hK]; exact hne.filter _, hu, fun x hx y hy e => ?_⟩
  rw [← hK] at hx
  have h1 := (List.mem_filter.1 hx).2
  have h2 := hI.fresh y ((hA y).1 hy)
  have e' : x.key = y.key := e
  simp [e', h2] at h1
theorem vown_n {W w : World} {L : List (Array Obj)} {v : Value} {l : List VRow} {n : Nat} (h : VOwn W w L v l) (hl : l.length = n) : W.ownsRow (sz w.heap.size (shape L)) 34 4 v n (l.flatMap vrCells) := hl ▸ h
/-- The loop over what is fresh. -/
structure LoopI (W w : World) (L1 L0 : List (Array Obj)) (Df : DataW VRow) (nf : Nat) (F KR A : List VRow) (a : Option Addr) (n c cnt : Nat) (of oj : Obj) (left : Lit → Bool) : Prop where
  rng : RangeB Try.prog 9 fElem (sz w.heap.size (shape L0)) nf Df left cnt of oj
  col : ColR F A left
  own : VOwn W w L1 (.slice a n c) (KR ++ A)
  len : (KR ++ A).length = n
  bnd : A.length + cnt ≤ nf
end Go.Proofs.Ytlanghikmccmbaa
