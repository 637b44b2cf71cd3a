/- slices.IndexFunc, DeleteFunc and Clone at api.Record (printed by gen/vmb.py out of VwY, VwZ, VxC). -/
import Derived.Test.YtlanghikmccmbaaVQ
import Derived.Test.YtlanghikmccmbaaVT
import Derived.Test.YtlanghikmccmbaaME
import Derived.Test.YtlanghikmccmbaaMI
import Derived.Test.YtlanghikmccmbaaMF
namespace Go.Proofs.Ytlanghikmccmbaa
open Go.ChangeShapes Go.WideShapes Go.ChangeAt Go.RowKit
set_option linter.unusedVariables false
set_option linter.unusedSimpArgs false
theorem recCells_one : ∀ r : Rec, ∀ v ∈ recCells r, v.oneCell' = true := fun r u hu => by
  simp only [recCells, List.mem_cons, List.not_mem_nil, or_false] at hu
  rcases hu with rfl | rfl | rfl | rfl | rfl | rfl <;> rfl
/-- A predicate on rows that reads, whatever is written into the row 'row'. -/
structure PredQ (g : Nat) (lb : Array Value) (p : Rec → Bool) (row : Nat) (l : List Rec) (w : World) : Prop where
  enter : ∀ args w, (callFunc g args).run Try.prog w = .ok (.enter g args) w
  call : ∀ W x, x ∈ l → w.grownBy W (some row) → Calls Try.prog g (#[.agg #[.int .i64 x.delta, .int .i64 x.time, .bool x.keyed, .string (str x.key), .bool x.dead, .string (str x.value)]] ++ lb) W fun e W' => e = .returned (.bool (p x)) ∧ More W W'
theorem PredQ.grown {g : Nat} {lb : Array Value} {p : Rec → Bool} {row : Nat} {l : List Rec} {w w' : World} (h : PredQ g lb p row l w) (hg : w.grownBy w' (some row)) : PredQ g lb p row l w' := ⟨h.enter, fun W x hx hW => h.call W x hx (grown_trans hg hW)⟩
def ixQ (p : Rec → Bool) : Nat → List Rec → Int
  | _, [] => -1
  | k, x :: l => if p x = true then k else ixQ p (k + 1) l
theorem ixQ_hit (p : Rec → Bool) : ∀ (l : List Rec) (s k : Nat) (x : Rec), l[k]? = some x → p x = true → (∀ y ∈ l.take k, p y = false) → ixQ p s l = (s + k : Nat)
  | [], s, k, x, h, _, _ => by cases h
  | y :: l, s, 0, x, h, hp, _ => by cases h; rw [ixQ, if_pos hp, Nat.add_zero]
  | y :: l, s, k + 1, x, h, hp, hk => by
    rw [List.take_succ_cons] at hk
    rw [ixQ, if_neg (by rw [hk y (by simp)]; simp), ixQ_hit p l (s + 1) k x (by simpa using h) hp (fun z hz => hk z (by simp [hz]))]
    congr 1; omega
theorem ixQ_miss (p : Rec → Bool) : ∀ (l : List Rec) (s : Nat), (∀ y ∈ l, p y = false) → ixQ p s l = -1
  | [], s, _ => rfl
  | y :: l, s, hk => by rw [ixQ, if_neg (by rw [hk y (by simp)]; simp), ixQ_miss p l (s + 1) (fun z hz => hk z (by simp [hz]))]
set_option maxRecDepth 100000 in
set_option maxHeartbeats 1600000 in
theorem ixq_any (g : Nat) (lb : Array Value) (p : Rec → Bool) (row : Nat) (a : Option Addr) (cap : Nat) (l : List Rec) (w : World) (h : RecsAt w a l) (hl : l.length ≤ 1000000) (hp : PredQ g lb p row l w) :
    Calls Try.prog 87 #[.slice a l.length cap, .func (.func g) #[] lb] w fun e w' => e = .returned (.int .i64 (ixQ p 0 l)) ∧ More w w' := by
  have eg := hp.enter
  have HA := Lib.hid h
  have HP := Lib.hid (fun W x hx hm => hp.call W x hx (grown_more hm _))
  obtain ⟨N, hN⟩ : ∃ N, l.length = N := ⟨_, rfl⟩
  have HN := Lib.hid hN
  rw [hN] at hl ⊢
  obtain ⟨r, hr⟩ : ∃ r, ixQ p 0 l = r := ⟨_, rfl⟩
  have HR := Lib.hid hr
  rw [hr]
  clear h hp hN hr
  refine calls_wd ?_
  go_enter Try.func87, Try.ntmps87
  go_wp2
  go_loopw [8] (fun i wr => ∃ (k : Nat) (m : Ext), k ≤ N ∧ i = .int .i64 k ∧ wr = wd w [m.e] m.n ∧ Hid (∀ y ∈ l.take k, p y = false)) (fun i _ => N - (intOf i).toNat)
  case atStart => exact ⟨0, ⟨#[], _⟩, Nat.zero_le _, rfl, (wd_empty _ _ _).symm, Lib.hid (by simp)⟩
  case round =>
    obtain ⟨k, m, hkN, rfl, rfl, HI⟩ := hrel
    by_cases hlt : k < N
    · obtain ⟨x, hx⟩ : ∃ x, l[k]? = some x := ⟨_, List.getElem?_eq_getElem (by rw [HN.out]; exact hlt)⟩
      obtain ⟨bb, off, rfl, hb, c0, c1, c2, c3, c4, c5⟩ := recs_at HA.out k x hx
      have HC := Lib.hid (fun W hm => HP.out W x (List.mem_of_getElem? hx) hm)
      have HX := Lib.hid hx
      obtain ⟨xd, xt, xb, xk, xe, xv⟩ := x
      dsimp only at HC c0 c1 c2 c3 c4 c5
      clear hx
      obtain ⟨q, hq⟩ : ∃ q, p ⟨xd, xt, xb, xk, xe, xv⟩ = q := ⟨_, rfl⟩
      have HQ := Lib.hid hq
      rw [hq] at HC
      clear hq
      cases q with
      | true =>
        go_wp2_with (go_at_fn g; refine (HC.out _ (more_wd _ _ _)).mono ?_; rintro e w' ⟨rfl, x1, n1, rfl⟩)
        go_ret
        exact ⟨by rw [← HR.out, ixQ_hit p l 0 k _ HX.out HQ.out HI.out, Nat.zero_add]; rfl, more_wd _ _ _⟩
      | false =>
        go_wp2_with (go_at_fn g; refine (HC.out _ (more_wd _ _ _)).mono ?_; rintro e w' ⟨rfl, x1, n1, rfl⟩)
        go_roundw
        case rel => exact ⟨k + 1, ⟨m.e ++ x1, n1⟩, by omega, by go_num, by rw [wd_merge], Lib.hid (take_ok' HI.out HX.out HQ.out)⟩
        case measure => simp [intOf]; omega
    · obtain rfl : k = N := by omega
      go_wp2
      go_ret
      refine ⟨?_, more_wd _ _ _⟩
      have := HI.out
      rw [List.take_of_length_le (by rw [HN.out]; exact Nat.le_refl _)] at this
      rw [← HR.out, ixQ_miss p l 0 this]
      rfl
/-! ### DeleteFunc, plainly -/
def keepQ (p : Rec → Bool) (l : List Rec) : List Rec := l.filter fun x => !p x
theorem keepQ_snoc (p : Rec → Bool) (l : List Rec) (k : Nat) (x : Rec) (hx : l[k]? = some x) : keepQ p (l.take (k + 1)) = keepQ p (l.take k) ++ if p x = true then [] else [x] := by
  rw [List.take_add_one, hx]
  unfold keepQ
  rw [List.filter_append]
  cases h : p x <;> simp [h]
/-- What stands in the row under way: the first i of those kept, the rest from j on as it was. -/
structure DelQ (p : Rec → Bool) (l m : List Rec) (i j : Nat) : Prop where
  len : m.length = l.length
  kept : m.take i = keepQ p (l.take j)
  rest : m.drop j = l.drop j
  lt : i < j
  le : j ≤ l.length
theorem DelQ.at {p : Rec → Bool} {l m : List Rec} {i j : Nat} (h : DelQ p l m i j) : m[j]? = l[j]? := by
  have := congrArg (fun z => z[0]?) h.rest
  simpa using this
theorem DelQ.skip {p : Rec → Bool} {l m : List Rec} {i j : Nat} (h : DelQ p l m i j) (x : Rec) (hx : l[j]? = some x) (hp : p x = true) : DelQ p l m i (j + 1) := by
  have hj := (List.getElem?_eq_some_iff.1 hx).1
  refine ⟨h.len, by rw [h.kept, keepQ_snoc p l j x hx, if_pos hp, List.append_nil], ?_, by have := h.lt; omega, by omega⟩
  have := congrArg (List.drop 1) h.rest
  simpa [List.drop_drop] using this
theorem DelQ.put {p : Rec → Bool} {l m : List Rec} {i j : Nat} (h : DelQ p l m i j) (x : Rec) (hx : l[j]? = some x) (hp : p x = false) : DelQ p l (m.set i x) (i + 1) (j + 1) := by
  have hj := (List.getElem?_eq_some_iff.1 hx).1
  have hi : i < m.length := by have := h.lt; have := h.len; omega
  refine ⟨by rw [List.length_set, h.len], ?_, ?_, by have := h.lt; omega, by omega⟩
  · rw [keepQ_snoc p l j x hx, if_neg (by rw [hp]; simp), ← h.kept, List.take_add_one, List.getElem?_set_self hi, List.take_set, List.set_eq_of_length_le (by simp; omega)]
    rfl
  · rw [List.drop_set, if_pos (by have := h.lt; omega)]
    have := congrArg (List.drop 1) h.rest
    simpa [List.drop_drop] using this
theorem ixQ_cases (p : Rec → Bool) : ∀ (l : List Rec) (s : Nat), (ixQ p s l = -1 ∧ keepQ p l = l) ∨ ∃ k, ixQ p s l = (s + k : Nat) ∧ k < l.length ∧ DelQ p l l k (k + 1)
  | [], s => .inl ⟨rfl, rfl⟩
  | x :: l, s => by
    cases h : p x with
    | true => exact .inr ⟨0, by rw [ixQ, if_pos h]; rfl, by simp, ⟨rfl, by simp [keepQ, h], rfl, by omega, by simp⟩⟩
    | false =>
      rw [ixQ, if_neg (by rw [h]; simp)]
      rcases ixQ_cases p l (s + 1) with ⟨h1, h2⟩ | ⟨k, h1, h2, h3⟩
      · exact .inl ⟨h1, by have : keepQ p (x :: l) = x :: keepQ p l := by unfold keepQ; rw [List.filter_cons, if_pos (by rw [h]; rfl)]
                           rw [this, h2]⟩
      · refine .inr ⟨k + 1, by rw [h1]; congr 1; omega, by simp; omega, ⟨rfl, ?_, rfl, by omega, by simp; omega⟩⟩
        rw [List.take_succ_cons, List.take_succ_cons, h3.kept]
        unfold keepQ
        rw [List.filter_cons, if_pos (by rw [h]; rfl)]
theorem sz_recq : ∀ w, (Go.sizeOf 73).run Try.prog w = .ok 6 w := fun w => by
  obtain ⟨i0, hi, hz0, hz1, hz2⟩ := info_parts info_rec
  simp [Go.sizeOf, typeInfo, hi, hz1]
theorem zv_recq : ∀ w, (zeroValue 73).run Try.prog w = .ok (.agg #[.int .i64 0, .int .i64 0, .bool false, .string ⟨#[]⟩, .bool false, .string ⟨#[]⟩]) w := fun w => by
  obtain ⟨i0, hi, hz0, hz1, hz2⟩ := info_parts info_rec
  simp [zeroValue, typeInfo, hi, hz0]
theorem rslice_own {g : Nat} (i n cap : Nat) (hi : i < n) (hc : n ≤ cap) (hb : cap ≤ 9223372036854775807) :
    (∀ W, (Instr.slice 65 (.slice (some ⟨g, 0, none⟩) n cap) (some (.int .i64 (i : Int))) none none).run Try.prog W = .ok (.slice (some ⟨g, i * 6, none⟩) (n - i) (cap - i)) W) ∧
    (∀ W, (Instr.slice 65 (.slice (some ⟨g, 0, none⟩) n cap) none (some (.int .i64 (i : Int))) none).run Try.prog W = .ok (.slice (some ⟨g, 0, none⟩) i cap) W) := by
  have ht' : Try.prog.underlying 65 = some (.slice (Try.prog.elem 65)) := by simp [Program.elem, Try.underlying65]
  have he : Try.prog.elem 65 = 73 := by simp [Program.elem, Try.underlying65]
  refine ⟨fun W => ?_, fun W => ?_⟩
  · rw [run_slice_l W 65 _ n cap ht' .i64 _ (by omega) (by omega), he, sz_recq]
    have hne : ¬ cap = i := by omega
    simp [Result.andThen, sliced, hne, Addr.add]
    try omega
  · rw [run_slice_h W 65 _ n cap ht' .i64 _ (by omega) (by omega), he, sz_recq]
    simp [Result.andThen, sliced, Addr.add]
structure DelRq (w w' : World) (e : Ending) (B g cap : Nat) (l : List Rec) : Prop where
  out : e = .returned (.slice (some ⟨g, 0, none⟩) l.length cap)
  own : w'.ownsRow B 73 6 (.slice (some ⟨g, 0, none⟩) l.length cap) l.length (l.flatMap recCells)
  grown : w.grownBy w' (some g)
theorem ownq_cut {W : World} {B cap g : Nat} {p : Rec → Bool} {l m : List Rec} {xs : List Value} {i j n : Nat} (h : W.ownsRow B 73 6 (.slice (some ⟨g, 0, none⟩) n cap) n xs) (hD : DelQ p l m i j) (hj : j = l.length) (hn : n = l.length) (hx : xs.take (i * 6) = (m.flatMap recCells).take (i * 6)) :
    (keepQ p l).length = i ∧ W.ownsRow B 73 6 (.slice (some ⟨g, 0, none⟩) i cap) i ((keepQ p l).flatMap recCells) := by
  have hi : i ≤ n := by have := hD.lt; omega
  have e1 : keepQ p l = m.take i := by rw [hD.kept, hj, List.take_of_length_le (Nat.le_refl _)]
  have hil : i ≤ m.length := by have := hD.len; omega
  have h2 := owns_take h i hi
  rw [hx, flat_take' recCells 6 recCells_len m i] at h2
  rw [e1]
  exact ⟨by rw [List.length_take]; omega, h2⟩
set_option maxRecDepth 100000 in
set_option maxHeartbeats 3200000 in
theorem delq_any (f : Nat) (lb : Array Value) (p : Rec → Bool) (B g cap : Nat) (l : List Rec) (w : World) (h : w.ownsRow B 73 6 (.slice (some ⟨g, 0, none⟩) l.length cap) l.length (l.flatMap recCells)) (hl : l.length ≤ 1000000) (hp : PredQ f lb p g l w) :
    Calls Try.prog 60 #[.slice (some ⟨g, 0, none⟩) l.length cap, .func (.func f) #[] lb] w fun e w' => DelRq w w' e B g cap (keepQ p l) := by
  have eg := hp.enter
  have HIX := Lib.hid (fun W hm => ixq_any f lb p g _ cap l W (rowat_of_owns rfl (owns_more (w' := W) h hm)) hl (hp.grown (grown_more hm _)))
  have HP := Lib.hid hp
  have HOWN := Lib.hid h
  obtain ⟨N, hN⟩ : ∃ N, l.length = N := ⟨_, rfl⟩
  have HN := Lib.hid hN
  obtain ⟨r, hr⟩ : ∃ r, ixQ p 0 l = r := ⟨_, rfl⟩
  have HR := Lib.hid (ixQ_cases p l 0)
  rw [hr] at HIX HR
  rw [hN] at hl HIX HOWN ⊢
  have HZ := Lib.hid hN
  clear h hp hN hr
  rcases HR.out with ⟨rfl, hkeep⟩ | ⟨k0, rfl, hk0, hD0⟩
  · refine calls_wd ?_
    go_enter Try.func60, Try.ntmps60
    go_wp2_with ((go_at_call 87; ((with_reducible refine (HIX.out _ (more_wd _ _ _)).mono ?_); rintro e w1 ⟨rfl, x1, n1, rfl⟩)))
    go_ret
    exact ⟨by rw [hkeep, HZ.out]; rfl, by rw [hkeep, HZ.out]; exact owns_more HOWN.out (more_wd _ _ _), grown_more (more_wd _ _ _) _⟩
  · have hk1 : k0 < N := by have := HZ.out; omega
    have hkb : ((k0 : Int) == -1) = false := by rw [beq_eq_false_iff_ne]; omega
    rw [Nat.zero_add] at HIX
    have HD0 := Lib.hid hD0
    clear hD0 hk0 HR
    refine calls_wd ?_
    go_enter Try.func60, Try.ntmps60
    go_wp2_with ((go_at_call 87; ((with_reducible refine (HIX.out _ (more_wd _ _ _)).mono ?_); rintro e w1 ⟨rfl, x1, n1, rfl⟩)))
    clear HIX
    go_loopw [5, 6] (fun i5 i6 wr => ∃ (i j : Nat) (m : List Rec), j ≤ N ∧ i < j ∧ i5 = .int .i64 i ∧ i6 = .int .i64 j ∧ Hid (DelQ p l m i j) ∧ Hid (wr.ownsRow B 73 6 (.slice (some ⟨g, 0, none⟩) N cap) N (m.flatMap recCells)) ∧ Hid (w.grownBy wr (some g))) (fun _ i6 _ => N - (intOf i6).toNat)
    case atStart => exact ⟨k0, k0 + 1, l, by omega, by omega, rfl, by go_num, HD0, Lib.hid (owns_more HOWN.out (more_wd _ _ _)), Lib.hid (grown_more (more_wd _ _ _) _)⟩
    case round =>
      obtain ⟨i, j, m, hjN, hij, rfl, rfl, HD, HO, HG⟩ := hrel
      by_cases hlt : j < N
      · obtain ⟨x, hx⟩ : ∃ x, l[j]? = some x := ⟨_, List.getElem?_eq_getElem (by rw [HZ.out]; exact hlt)⟩
        have hxm : m[j]? = some x := by rw [HD.out.at]; exact hx
        have hml : m.length = N := by rw [HD.out.len, HZ.out]
        have hgl := owns_lt HO.out
        obtain ⟨bb, off, hbo, hb, c0, c1, c2, c3, c4, c5⟩ := recs_at (rowat_of_owns hml HO.out) j x hxm
        cases hbo
        simp only [Nat.zero_add] at c0 c1 c2 c3 c4 c5
        have HC := Lib.hid (fun W hm => HP.out.call W x (List.mem_of_getElem? hx) (grown_trans HG.out (grown_more (a := wr) hm _)))
        have HX := Lib.hid hx
        have HM := Lib.hid hml
        obtain ⟨xd, xt, xb, xk, xe, xv⟩ := x
        dsimp only at HC c0 c1 c2 c3 c4 c5
        clear hx hxm hml
        obtain ⟨q, hq⟩ : ∃ q, p ⟨xd, xt, xb, xk, xe, xv⟩ = q := ⟨_, rfl⟩
        have HQ := Lib.hid hq
        rw [hq] at HC
        clear hq
        rw [← wd_nil wr]
        have HOW := Lib.hid (fun W hm => owns_more (w' := W) HO.out hm)
        cases q with
        | true =>
          go_wp2_with (go_at_fn f; refine (HC.out _ (more_wd _ _ _)).mono ?_; rintro e w' ⟨rfl, x1, n1, rfl⟩)
          go_roundw
          case rel => exact ⟨i, j + 1, m, by omega, by omega, rfl, by go_num, Lib.hid (HD.out.skip _ HX.out HQ.out), Lib.hid (HOW.out _ (more_wd _ _ _)), Lib.hid (grown_trans HG.out (grown_more (more_wd _ _ _) _))⟩
          case measure => simp [intOf]; omega
        | false =>
          go_wp2_with (first
            | (go_at_fn f; refine (HC.out _ (more_wd _ _ _)).mono ?_; rintro e w' ⟨rfl, x1, n1, rfl⟩)
            | (refine wp_store_own rfl _ _ 73 rfl sz_recq (HOW.out _ (more_wd _ _ _)) i (i * 6) (by omega) rfl #[.int .i64 xd, .int .i64 xt, .bool xb, .string (str xk), .bool xe, .string (str xv)] rfl rfl rfl (by simp [Value.oneCell']) ?_; intro W9 ho9 hg9 hs9))
          go_roundw
          case rel =>
            have e9 := putL_flat recCells 6 recCells_len m i ⟨xd, xt, xb, xk, xe, xv⟩ (by rw [HM.out]; omega)
            have ho8 : W9.ownsRow B 73 6 (.slice (some ⟨g, 0, none⟩) N cap) N (putL (m.flatMap recCells) (i * 6) (recCells ⟨xd, xt, xb, xk, xe, xv⟩)) := ho9
            rw [e9] at ho8
            exact ⟨i + 1, j + 1, m.set i ⟨xd, xt, xb, xk, xe, xv⟩, by omega, by omega, by go_num, by go_num, Lib.hid (HD.out.put _ HX.out HQ.out), Lib.hid ho8, Lib.hid (grown_trans (grown_trans HG.out (grown_more (more_wd _ _ _) _)) hg9)⟩
          case measure => simp [intOf]; omega
      · obtain rfl : j = N := by omega
        obtain ⟨cur, -, -, hc1, hc2, -⟩ := owns_block HO.out
        unfold maxLen at hc2
        obtain ⟨hs1, hs2⟩ := rslice_own (g := g) i j cap (by omega) hc1 (by omega)
        obtain ⟨W9, xs9, hrun, ho9, hx9, hg9, hs9⟩ := owns_clear HO.out 65 73 0 _ Try.underlying65 zv_recq rfl (by decide) (by simp [Value.oneCell', Value.cells]) i (by omega) (cap - i)
        have HO9 := Lib.hid ho9
        have HX9 := Lib.hid hx9
        have HG9 := Lib.hid (grown_trans HG.out hg9)
        clear ho9 hx9 hg9 hs9 hc1 hc2 HOWN HO
        go_wp2
        go_ret
        obtain ⟨k1, k2⟩ := ownq_cut HO9.out HD.out HZ.out.symm HZ.out.symm HX9.out
        exact ⟨by rw [k1]; rfl, by rw [k1]; exact k2, HG9.out⟩
theorem rcq_one (l : List Rec) : ∀ u ∈ l.flatMap recCells, u.oneCell' = true := by
  intro u hu
  obtain ⟨r, _, h⟩ := List.mem_flatMap.1 hu
  exact recCells_one r u h
set_option maxRecDepth 100000 in
set_option maxHeartbeats 800000 in
theorem clone_recs (a : Option Addr) (cap : Nat) (l : List Rec) (w : World) (h : RecsAt w a l) (hl : l.length ≤ 1000000) : Calls Try.prog 61 #[.slice a l.length cap] w fun e w' => ∃ v', e = .returned v' ∧ Made w w' 73 6 v' l.length (l.flatMap recCells) := by
  obtain ⟨i0, hi, hz0, hz1, hz2⟩ := info_parts info_rec
  have HV := Lib.hid h
  have q1 := fun (w : World) (a : Option Addr) (n c : Nat) => Lib.run_eql_slice_nil (P := Try.prog) w 65 73 a n c 0 0 Try.underlying65
  have HONE := Lib.hid (rcq_one l)
  cases a with
  | none =>
    have hl0 : l = [] := by
      by_cases h0 : l = []
      · exact h0
      · obtain ⟨b, off, h1, _⟩ := h.out h0; cases h1
    subst hl0
    clear h
    refine calls_wd ?_
    go_enter Try.func61, Try.ntmps61
    go_wp2
    go_ret
    exact ⟨_, rfl, by rw [← wd_empty]; exact made_of (rowIn_nil _ _ _ _ _)⟩
  | some ad =>
    clear h
    have HLIT := Lib.hid (rowIn_lit w.heap.size [] #[] 73 6 0 (by decide) rfl)
    obtain ⟨X, hX⟩ : ∃ X, l.flatMap recCells = X := ⟨_, rfl⟩
    have HRD := Lib.hid (fun W hm => hX ▸ (HV.out.more (w' := W) hm).rd recCells_len cap)
    rw [hX] at HONE ⊢
    obtain ⟨N, hN⟩ : ∃ N, l.length = N := ⟨_, rfl⟩
    rw [hN] at HRD hl ⊢
    clear hX HV
    refine calls_wd ?_
    go_enter Try.func61, Try.ntmps61
    go_wp2_with (at_builtin; refine wp_append_src (L := []) rfl _ _ _ rfl 73 i0 _ 6 64 Try.underlying65 hi hz0 hz1 hz2 rfl (by decide) (m := #[.cells #[] 73]) (n := w.drawn) rfl (.slice (some ⟨sz w.heap.size [], 0, none⟩) 0 0) 0 [] rfl HLIT.out (.slice (some ad) N cap) N X rfl (HRD.out _ (more_wd _ _ _)) HONE.out (by unfold maxLen; omega) (by omega) ?_; intro v' m' hrow')
    go_ret
    exact ⟨_, rfl, made_of (by have h := hrow'; simp only [Nat.zero_add, List.nil_append] at h; exact h)⟩
/-- A slice of rows handed back in a row that the call may have turned, from block B on. -/
structure OwnRq (w w' : World) (e : Ending) (B : Nat) (l : List Rec) : Prop where
  out : ∃ a c row, e = .returned (.slice a l.length c) ∧ w'.ownsRow B 73 6 (.slice a l.length c) l.length (l.flatMap recCells) ∧ w.grownBy w' row ∧ ∀ k, row = some k → B ≤ k
theorem ownq_cases {w : World} {B n : Nat} {v : Value} {l : List Rec} (h : w.ownsRow B 73 6 v l.length (l.flatMap recCells)) : (v = .slice none 0 0 ∧ l = []) ∨ ∃ g cap, v = .slice (some ⟨g, 0, none⟩) l.length cap ∧ B ≤ g := by
  rcases h.2 with ⟨h1, h2⟩ | ⟨g, cap, cur, hv, hg, _⟩
  · exact .inl ⟨h1, List.eq_nil_of_length_eq_zero h2⟩
  · exact .inr ⟨g, cap, hv, hg⟩
set_option maxRecDepth 100000 in
theorem delq_nil (f : Nat) (lb : Array Value) (w : World) (he : ∀ args w, (callFunc f args).run Try.prog w = .ok (.enter f args) w) : Calls Try.prog 60 #[.slice none 0 0, .func (.func f) #[] lb] w fun e w' => e = .returned (.slice none 0 0) ∧ More w w' := by
  have HIX := Lib.hid (fun (W : World) => show Calls Try.prog 87 #[.slice none 0 0, .func (.func f) #[] lb] W (fun e w' => e = .returned (.int .i64 (-1)) ∧ More W w') from ixq_any f lb (fun _ => false) 0 none 0 [] W (RowAt.nil _) (by decide) ⟨he, fun W x hx => by cases hx⟩)
  clear he
  refine calls_wd ?_
  go_enter Try.func60, Try.ntmps60
  go_wp2_with ((go_at_call 87; ((with_reducible refine (HIX.out _).mono ?_); rintro e w1 ⟨rfl, x1, n1, rfl⟩)))
  go_ret
  exact ⟨rfl, more_wd _ _ _⟩
theorem delq2 (f : Nat) (lb : Array Value) (p : Rec → Bool) (B : Nat) (v : Value) (l : List Rec) (w : World) (h : w.ownsRow B 73 6 v l.length (l.flatMap recCells)) (hl : l.length ≤ 1000000) (hp : ∀ row, B ≤ row → PredQ f lb p row l w) (he : ∀ args w, (callFunc f args).run Try.prog w = .ok (.enter f args) w) :
    Calls Try.prog 60 #[v, .func (.func f) #[] lb] w fun e w' => OwnRq w w' e B (keepQ p l) := by
  rcases ownq_cases (n := 0) h with ⟨rfl, rfl⟩ | ⟨g, cap, rfl, hg⟩
  · refine (delq_nil f lb w he).mono ?_
    rintro e w' ⟨rfl, hm⟩
    exact ⟨none, 0, none, rfl, owns_more h hm, grown_more hm _, fun k hk => by cases hk⟩
  · refine (delq_any f lb p B g cap l w h hl (hp g hg)).mono ?_
    rintro e w' ⟨h1, h2, h3⟩
    exact ⟨_, _, _, h1, h2, h3, fun k hk => by cases hk; exact hg⟩
end Go.Proofs.Ytlanghikmccmbaa
/- Rows told with their block's type; what an append leaves as it was (printed by gen/vmn.py). -/
namespace Go.Proofs.Ytlanghikmccmbaa
open Go.ChangeShapes Go.WideShapes Go.ChangeAt Go.RowKit
set_option linter.unusedVariables false
set_option linter.unusedSimpArgs false
/-- All blocks stay, but those of the types T. -/
def KeepT (T : List TypeId) (W W' : World) : Prop := ∀ (b : Nat) (C : Array Value) (t : TypeId) (fr : Nat × Nat), W.heap[b]? = some (Obj.cells C t fr) → t ∉ T → W'.heap[b]? = some (Obj.cells C t fr)
theorem KeepT.of_more {T : List TypeId} {W W' : World} (h : More W W') : KeepT T W W' := by
  obtain ⟨x, n, rfl⟩ := h
  intro b C t fr hb _
  rw [plus_block _ _ _ _ (Array.getElem?_eq_some_iff.1 hb).1]; exact hb
theorem KeepT.trans {T : List TypeId} {a b c : World} (h : KeepT T a b) (k : KeepT T b c) : KeepT T a c := fun i C t fr hb ht => k i C t fr (h i C t fr hb ht) ht
theorem keept_grown {W W' : World} {B : Nat} {E : TypeId} {size : Nat} {v : Value} {n : Nat} {xs : List Value} (hown : W.ownsRow B E size v n xs) (hg : W.grownBy W' v.ownBlock) : KeepT [E] W W' := by
  intro b C t fr hb ht
  rw [hg.block b (Array.getElem?_eq_some_iff.1 hb).1 (fun he => ?_)]
  · exact hb
  · rcases hown.2 with ⟨rfl, _⟩ | ⟨g, cap, cur, rfl, _, hc, _⟩
    · simp [Value.ownBlock] at he
    · simp only [Value.ownBlock, Option.some.injEq] at he
      subst he
      rw [hb] at hc
      simp only [Option.some.injEq, Obj.cells.injEq] at hc
      exact ht (by rw [hc.2.1]; simp)
/-- A row, told with its block's type. -/
structure TRow {α : Type} (cells : α → List Value) (E : TypeId) (w : World) (a : Option Addr) (l : List α) : Prop where
  out : l ≠ [] → ∃ (b : Nat) (C : Array Value) (fr : Nat × Nat), a = some ⟨b, 0, none⟩ ∧ w.heap[b]? = some (Obj.cells C E fr) ∧ ∀ i, i < (l.flatMap cells).length → C[i]? = (l.flatMap cells)[i]?
theorem TRow.keeps {α : Type} {cells : α → List Value} {E : TypeId} {T : List TypeId} {w w' : World} {a : Option Addr} {l : List α} (h : TRow cells E w a l) (hk : KeepT T w w') (hE : E ∉ T) : TRow cells E w' a l := ⟨fun hne => by
  obtain ⟨b, C, fr, ha, hb, hc⟩ := h.out hne
  exact ⟨b, C, fr, ha, hk b C E fr hb hE, hc⟩⟩
theorem TRow.more {α : Type} {cells : α → List Value} {E : TypeId} {w w' : World} {a : Option Addr} {l : List α} (h : TRow cells E w a l) (hm : More w w') : TRow cells E w' a l := h.keeps (T := []) (KeepT.of_more hm) (by simp)
theorem TRow.at {α : Type} {cells : α → List Value} {E : TypeId} {size : Nat} {w : World} {a : Option Addr} {l : List α} (h : TRow cells E w a l) (hs : ∀ x, (cells x).length = size) : RowAt cells size w a l := ⟨fun hne => by
  obtain ⟨b, C, fr, ha, hb, hc⟩ := h.out hne
  refine ⟨b, 0, ha, (Array.getElem?_eq_some_iff.1 hb).1, fun i hi => ?_⟩
  rw [Nat.zero_add]
  simp only [World.cell?, hb]
  exact hc i (by rw [flat_len cells size hs]; exact hi)⟩
theorem trow_of_row {α : Type} {cells : α → List Value} {E : TypeId} {size : Nat} {w : World} {L : List (Array Obj)} {k : Nat} {e : Array Obj} {ad : Option Addr} {n cap : Nat} {l : List α} (hs : ∀ x, (cells x).length = size) (hn : n = l.length)
    (h : rowIn w.heap.size (shape L) e E size (.slice ad n cap) n (l.flatMap cells)) : TRow cells E (wd w (e :: L) k) ad l ∧ n ≤ cap := by
  subst hn
  rcases h.2 with ⟨h1, h2⟩ | ⟨j, c, cur, h1, hj, he, h2, _, hsz, hx⟩
  · refine ⟨⟨fun hne => absurd (List.length_eq_zero_iff.1 h2) hne⟩, by injection h1 with _ _ h3; omega⟩
  · injection h1 with g1 g2 g3
    subst g3
    refine ⟨⟨fun hne => ⟨_, cur, (0, 0), g1, by rw [wd_block_in w L k _ j _ e rfl rfl]; exact he, fun i hi => ?_⟩⟩, h2⟩
    rw [← hx, List.getElem?_take, if_pos (by rw [flat_len cells size hs] at hi; exact hi)]
    simp
/-- 'append(s, x)', x one element: what else there is stays. -/
theorem wp_append_rowT {P : Program} {ops : Array Oper} {rest : List Oper} {o : Oper} {a : Act} {Q : Exit → Act → World → Prop} (hgd : o.guard = none) (s x : Operand) (t : TypeId)
    (ho : o.op = .call { callee := .builtin .append, args := #[s, x], argTypes := #[t, t] })
    (e : TypeId) (i : TypeInfo) (z : Value) (size bytes : Nat) (ht : P.underlying t = some (.slice e)) (hi : P.info? e = some i) (hz : i.zero = some z)
    (hsize : i.size = size) (hby : i.bytes = bytes) (hzs : z.cells.size = size) (hsz : 0 < size)
    {w : World} {L : List (Array Obj)} {n : Nat} {m : Array Obj} (v : Value) (k : Nat) (xs : List Value) (hs : a.eval s = v) (hrow : rowIn w.heap.size (shape L) m e size v k xs)
    (C : Array Value) (t' : TypeId) (q c : Nat) (hx : a.eval x = .slice (some ⟨sz w.heap.size (m.size :: shape L), 0, none⟩) q c) (hl : C.size = q * size) (h1 : ∀ u ∈ C.toList, u.oneCell' = true)
    (h63 : k + q ≤ maxLen) (hbytes : (k + q) * bytes ≤ 140737488355328)
    (h : ∀ (v' : Value) (m' : Ext), rowIn w.heap.size (shape L) m'.e e size v' (k + q) (xs ++ C.toList) → KeepT [e] (wd w (m :: L) n) (wd w (m'.e :: L) m'.n) → wpList P ops Q rest (a.put o.dst v') (wd w (m'.e :: L) m'.n)) :
    wpList P ops Q (o :: rest) a (wd w (#[.cells C t'] :: m :: L) n) := by
  have hk0 : KeepT [e] (wd w (m :: L) n) (wd w (#[.cells C t'] :: m :: L) n) := KeepT.of_more ⟨#[.cells C t'], n, rfl⟩
  rw [wd_merge] at hk0 ⊢
  have hown := owns_of_row (k := n) (rowIn_more hrow #[.cells C t'])
  refine wpList_append_own _ hgd s x t ho (sz w.heap.size (shape L)) e i z size bytes ht hi hz hsize hby hzs hsz v k xs hs hown _ q c C.toList hx (by simpa using hl) (fun j u hu => ?_) h1 h63 hbytes (by rw [wd_size, shape_cons]; simp only [sz]; omega) ?_
  · rw [← wd_merge]
    have e1 : ((⟨sz w.heap.size (m.size :: shape L), 0, none⟩ : Addr).add j) = ⟨sz w.heap.size (m.size :: shape L), j, none⟩ := by
      unfold Addr.add; split <;> simp_all
    rw [e1, wd_cell w (m :: L) n w.heap.size j (m.size :: shape L) C t' (0, 0) rfl rfl]
    simpa using hu
  · intro v' w' hown' hg _
    have hr : ∀ k, v.ownBlock = some k → sz w.heap.size (shape L) ≤ k := fun k hk => by
      rcases hrow.2 with ⟨rfl, _⟩ | ⟨j, cap, cur, rfl, _⟩
      · simp [Value.ownBlock] at hk
      · simp only [Value.ownBlock, Option.some.injEq] at hk; unfold at' at hk; omega
    have hk := hk0.trans (keept_grown hown hg)
    obtain ⟨m', rfl⟩ := grown_piece (m := 0) hg hr
    exact h v' m' (row_of_owns hown') hk
/-- 'append(s, x)', x one element, its row beneath the pieces D: what else there is stays. -/
theorem wp_append_rowDT (D : List (Array Obj)) {P : Program} {ops : Array Oper} {rest : List Oper} {o : Oper} {a : Act} {Q : Exit → Act → World → Prop} (hgd : o.guard = none) (s x : Operand) (t : TypeId)
    (ho : o.op = .call { callee := .builtin .append, args := #[s, x], argTypes := #[t, t] })
    (e : TypeId) (i : TypeInfo) (z : Value) (size bytes : Nat) (ht : P.underlying t = some (.slice e)) (hi : P.info? e = some i) (hz : i.zero = some z)
    (hsize : i.size = size) (hby : i.bytes = bytes) (hzs : z.cells.size = size) (hsz : 0 < size)
    {w : World} {L : List (Array Obj)} {n : Nat} {m : Array Obj} (v : Value) (k : Nat) (xs : List Value) (hs : a.eval s = v) (hrow : rowIn w.heap.size (shape L) m e size v k xs)
    (C : Array Value) (t' : TypeId) (q c : Nat) (hx : a.eval x = .slice (some ⟨sz w.heap.size (shape (D ++ m :: L)), 0, none⟩) q c) (hl : C.size = q * size) (h1 : ∀ u ∈ C.toList, u.oneCell' = true)
    (h63 : k + q ≤ maxLen) (hbytes : (k + q) * bytes ≤ 140737488355328)
    (h : ∀ (v' : Value) (m' : Ext), rowIn w.heap.size (shape L) m'.e e size v' (k + q) (xs ++ C.toList) → KeepT [e] (wd w (D ++ m :: L) n) (wd w (m'.e :: L) m'.n) → wpList P ops Q rest (a.put o.dst v') (wd w (m'.e :: L) m'.n)) :
    wpList P ops Q (o :: rest) a (wd w (#[.cells C t'] :: (D ++ m :: L)) n) := by
  rw [wd_mall1]
  rw [wd_mall] at h
  exact wp_append_rowT hgd s x t ho e i z size bytes ht hi hz hsize hby hzs hsz v k xs hs (rowIn_mall hrow D) C t' q c (by rw [hx, sz_mall]; rfl) hl h1 h63 hbytes h
theorem info_bat0 : (Try.prog.info? 67).map (fun i => (i.zero, i.size, i.bytes)) = some (some (.agg #[.int .i64 0, .int .i64 0, .int .i64 0, .int .i64 0, .int .i64 0, .slice none 0 0]), 6, 64) := by kernel_rfl
end Go.Proofs.Ytlanghikmccmbaa
