/- console: without a world: Do, Told, Session. -/
import Derived.Test.YtifoekadjnlhcaaGreatDoorNA
import Derived.Test.YtifoekadjnlhcaaGreatDoorMW
import Derived.Test.YtifoekadjnlhcaaGreatDoorPG
import Derived.Test.YtifoekadjnlhcaaGreatDoorQA
import Derived.Test.YtifoekadjnlhcaaGreatDoorMX
namespace Go.Proofs.YtifoekadjnlhcaaGreatDoor
open Go.ChangeShapes Go.WideShapes Go.ChangeAt Go.RowKit
set_option linter.unusedVariables false
set_option linter.unusedSimpArgs false
abbrev respZ : Array Value := #[.int .u8 0, .int .i64 0, .int .i64 0, .int .i64 0, .bool false, .int .i64 0, .slice none 0 0, .slice none 0 0, .slice none 0 0]
structure LinesRet (w w' : World) (e : Ending) (ls : List Word) : Prop where
  out : ∃ v x n, e = .returned v ∧ w' = plus w x n ∧ SRd w' v ls
theorem srd_one (w : World) (L : List (Array Obj)) (n : Nat) (s : Word) (fr : Nat × Nat) (hs : s.length ≤ 1099511627776) : SRd (wd w (#[.cells #[.string (str s)] 9 fr] :: L) n) (.slice (some ⟨sz w.heap.size (shape L), 0, none⟩) 1 1) [s] := by
  have hb := wd_at w L n _ _ (.cells #[.string (str s)] 9 fr) rfl rfl
  refine ⟨⟨_, 1, rfl, Nat.le_refl _, by decide, fun _ => ⟨_, 0, rfl, (Array.getElem?_eq_some_iff.1 hb).1, fun i t hi => ?_⟩⟩, fun t ht => by simp at ht; rw [ht]; exact hs⟩
  match i, hi with
  | 0, hi => simp only [List.getElem?_cons_zero, Option.some.injEq] at hi; subst hi; simp [World.cell?, hb]
theorem lines_one {w : World} {L : List (Array Obj)} {n : Nat} {s : Word} {fr : Nat × Nat} (hs : s.length ≤ 1099511627776) : LinesRet w (wd w (#[.cells #[.string (str s)] 9 fr] :: L) n) (.returned (.slice (some ⟨sz w.heap.size (shape L), 0, none⟩) 1 1)) [s] := by
  obtain ⟨x, m, h⟩ := more_wd w (#[.cells #[.string (str s)] 9 fr] :: L) n
  exact ⟨_, x, m, rfl, h, srd_one w L n s fr hs⟩
def Bd (n : Int) : Prop := -4611686018427387910 ≤ n ∧ n ≤ 4611686018427387910
theorem digI_len {n : Int} (h : Bd n) : (digI n).length ≤ 20 := by
  obtain ⟨h1, h2⟩ := h
  have key : ∀ k : Nat, k ≤ 4611686018427387910 → (digs k).length ≤ 19 := fun k hk => digs_len 18 k (Nat.lt_of_le_of_lt hk (by decide))
  unfold digI
  split
  · have := key (-n).toNat (by omega); simp; omega
  · have := key n.toNat (by omega); omega
theorem saddT {P : Program} {a b T : List UInt8} (hT : a ++ b = T) (h : T.length ≤ 9223372036854775807) (W : World) : (Op.stringOp .add (str a) (str b)).run P W = .ok (.string (str T)) W := by
  subst hT
  exact sadd a b (by rw [List.length_append] at h; exact h) W
def numsW (l : List Int) : Word := l.flatMap fun n => 32 :: digI n
def namesW (l : List Word) : Word := l.flatMap fun s => 32 :: s
def shownW (dead keyed : Bool) (key value : Word) : Word := if dead then key ++ [33] else if keyed then key ++ [61] ++ value else value
def recT (base : Int) (r : Rec) : Word := digI (base + r.delta) ++ [32] ++ digI r.time ++ [32] ++ shownW r.dead r.keyed r.key r.value
def fetchL (l : List Btm) (next : Int) : List Word := l.flatMap (fun x => x.b.recs.map (recT x.b.base)) ++ [[110, 101, 120, 116, 32] ++ digI next]
def askedW (k : Nat) (off next : Int) (db : Bool) (gen : Int) (ps : List Int) (ns : List Word) : Word :=
  if k = 0 then [116, 111, 112, 105, 99, 32] ++ digI off
  else if k = 2 then [116, 111, 112, 105, 99, 32] ++ digI off ++ [32] ++ digI next ++ numsW ps
  else if k = 3 then (if db then [97, 116, 32] ++ digI off ++ [32, 110, 101, 120, 116, 32] ++ digI next ++ [32, 100, 111, 117, 98, 108, 101] else [97, 116, 32] ++ digI off ++ [32, 110, 101, 120, 116, 32] ++ digI next)
  else if k = 5 ∨ k = 11 then (if db then [97, 116, 32] ++ digI off else [110, 111, 110, 101])
  else if k = 6 ∨ k = 9 then [103, 101, 110, 32] ++ digI gen ++ namesW ns
  else if k = 7 then [103, 101, 110, 32] ++ digI gen ++ numsW ps
  else if k = 8 then [103, 101, 110, 32] ++ digI gen
  else [111, 107]
def toldL (kind qk : Nat) (e off next : Int) (db : Bool) (gen : Int) (bs : List Btm) (ps : List Int) (ns : List Word) : List Word :=
  if e ≠ 0 then [[101, 114, 114, 111, 114, 32] ++ digI e]
  else if kind = 2 then [[119, 111, 114, 107, 101, 100, 32] ++ digI next]
  else if kind ≠ 0 then [[111, 107]]
  else if qk = 4 then fetchL bs next
  else [askedW qk off next db gen ps ns]
theorem flat_takeT {α β : Type} (f : α → List β) {l : List α} {k : Nat} {x : α} (h : l[k]? = some x) : (l.take (k + 1)).flatMap f = (l.take k).flatMap f ++ f x := by
  obtain ⟨hl, rfl⟩ := List.getElem?_eq_some_iff.1 h
  rw [List.take_succ_eq_append_getElem hl, List.flatMap_append, List.flatMap_cons, List.flatMap_nil, List.append_nil]
theorem flat_len_le {α : Type} (f : α → Word) (c : Nat) : ∀ (l : List α), (∀ x ∈ l, (f x).length ≤ c) → (l.flatMap f).length ≤ c * l.length
  | [], _ => by simp
  | x :: l, h => by
    have h1 := h x (by simp)
    have h2 := flat_len_le f c l (fun y hy => h y (by simp [hy]))
    rw [List.flatMap_cons, List.length_append, List.length_cons, Nat.mul_succ]
    omega
theorem numsW_len {l : List Int} (h : ∀ n ∈ l, Bd n) : (numsW l).length ≤ 21 * l.length := flat_len_le _ 21 l (fun x hx => by have := digI_len (h x hx); simp; omega)
theorem namesW_len {l : List Word} (h : ∀ s ∈ l, s.length ≤ 400) : (namesW l).length ≤ 401 * l.length := flat_len_le _ 401 l (fun x hx => by have := h x hx; simp; omega)
structure ZRd (w : World) (v : Value) (l : List Int) : Prop where
  out : ∃ a cap, v = .slice a l.length cap ∧ l.length ≤ cap ∧ cap ≤ maxLen ∧ (l ≠ [] → ∃ b off, a = some ⟨b, off, none⟩ ∧ b < w.heap.size ∧ ∀ i n, l[i]? = some n → w.cell? ⟨b, off + i, none⟩ = some (.int .i64 n))
theorem ZRd.more {w w' : World} {v : Value} {l : List Int} (h : ZRd w v l) (hm : More w w') : ZRd w' v l := by
  obtain ⟨a, cap, rfl, h1, h2, h3⟩ := h.out
  refine ⟨⟨a, cap, rfl, h1, h2, fun hne => ?_⟩⟩
  obtain ⟨b, off, ha, hb, hc⟩ := h3 hne
  have bel := hm.below
  exact ⟨b, off, ha, Nat.lt_of_lt_of_le hb bel.size, fun i k hi => by rw [bel.cell hb]; exact hc i k hi⟩
structure BN (w W : World) (b : Nat) (s : Word) : Prop where
  more : More w W
  lo : w.heap.size ≤ b
  out : ∃ v, BldAt W b v (Lib.byteCells s) ∧ (∀ g, v.ownBlock = some g → w.heap.size ≤ g) ∧ (s = [] → v = .slice none 0 0)
theorem bld_more {W W' : World} {b : Nat} {v : Value} {xs : List Value} (h : BldAt W b v xs) (hm : More W W') : BldAt W' b v xs := by
  obtain ⟨⟨q, hq, hb⟩, hr, hn⟩ := h
  exact ⟨⟨q, hq, by rw [hm.below.block b (lt_of_blk hb)]; exact hb⟩, owns_more hr hm, hn⟩
theorem BN.go {w W W' : World} {b : Nat} {s : Word} (h : BN w W b s) (hm : More W W') : BN w W' b s := by
  obtain ⟨h1, h2, v, h3, h4⟩ := h
  exact ⟨h1.trans hm, h2, v, bld_more h3 hm, h4⟩
theorem BN.start (w : World) (n : Nat) : BN w (wd w [#[.cells #[.pointer none, .slice none 0 0] 98]] n) (sz w.heap.size []) [] :=
  ⟨more_wd _ _ _, Nat.le_refl _, _, ⟨⟨none, .inl rfl, wd_at w [] n _ _ _ rfl rfl⟩, World.ownsRow_nil _ _ _ 1, by simp [Value.ownBlock]⟩, by simp [Value.ownBlock], fun _ => rfl⟩
theorem strCells_str (t : Word) : Lib.strCells (str t) = Lib.byteCells t := by rw [Lib.strCells_eq, str_data]
theorem bn_write {w W : World} {b : Nat} {s : Word} (h : BN w W b s) (t : Word) (ht : t ≠ []) (hl : s.length + t.length ≤ 1099511627776) : Calls Tryz.prog 44 #[.pointer (some ⟨b, 0, none⟩), .string (str t)] W fun e w' => e = .returned (.tuple #[.int .i64 t.length, .nilIface]) ∧ BN w w' b (s ++ t) := by
  obtain ⟨h1, h2, v, h3, h4, h5⟩ := h
  refine (bws_any W b v (Lib.byteCells s) (str t) h3 (by rw [Lib.byteCells_length, str_size]; exact hl)).mono ?_
  rintro e w' ⟨rfl, hw⟩
  obtain ⟨v', hb', hbl, hmv⟩ := hw.out
  rw [strCells_str, ← Lib.byteCells_append] at hbl
  have bel := h1.below
  refine ⟨by rw [str_size], more_of_below ⟨hmv.os.trans bel.os, hmv.tape.trans bel.tape, hmv.output.trans bel.output, Nat.le_trans bel.size hmv.size, fun k hk => ?_⟩, h2, v', hbl, fun g hg => ?_, fun e => absurd (List.append_eq_nil_iff.1 e).2 ht⟩
  · rw [hmv.block k (Nat.lt_of_lt_of_le hk bel.size) (by omega) (fun e => by have := h4 k e; omega)]
    exact bel.block k hk
  · rcases hmv.own g hg with e | e
    · exact h4 g e
    · exact Nat.le_trans bel.size e
theorem bn_string {w W : World} {b : Nat} {s : Word} (h : BN w W b s) : Calls Tryz.prog 45 #[.pointer (some ⟨b, 0, none⟩)] W fun e w' => e = .returned (.string (str s)) ∧ More w w' := by
  obtain ⟨h1, h2, v, ⟨⟨q, hq, hbk⟩, hr, hn⟩, h4, h5⟩ := h
  have bel := h1.below
  rw [Lib.byteCells_length] at hr
  rcases hr.2 with ⟨rfl, h0⟩ | ⟨g, cap, cur, rfl, hg0, hg, hnc, hcm, hcs, htk⟩
  · obtain rfl : s = [] := List.eq_nil_of_length_eq_zero h0
    refine (string_nil Tryz.lays169 Tryz.Builder_Extra_169 b (.pointer q) W hbk).mono fun e w' ⟨he, hw⟩ => ⟨he, ?_⟩
    subst hw
    exact more_of_below ⟨bel.os, bel.tape, bel.output, bel.size, fun k hk => bel.block k hk⟩
  · have hgw := h4 g rfl
    by_cases hs : s = []
    · cases h5 hs
    refine (string_row Tryz.lays169 Tryz.Builder_Extra_169 b g cap (.pointer q) cur s W hbk hg hnc hcm hcs htk hs).mono fun e w' ⟨he, hw⟩ => ⟨he, ?_⟩
    subst hw
    have hother : ∀ k, k ≠ g → (W.drew.freeze ⟨g, 0, none⟩ s.length).heap[k]? = W.heap[k]? := fun k hk => by
      unfold World.freeze
      split
      · rfl
      · show (W.drew.heap.modify g _)[k]? = _
        rw [Array.getElem?_modify, if_neg (fun e => hk e.symm)]
        rfl
    have hsize : (W.drew.freeze ⟨g, 0, none⟩ s.length).heap.size = W.heap.size := by
      unfold World.freeze
      split
      · rfl
      · show (W.drew.heap.modify g _).size = _
        rw [Array.size_modify]; rfl
    have hf : (W.drew.freeze ⟨g, 0, none⟩ s.length).os = W.os ∧ (W.drew.freeze ⟨g, 0, none⟩ s.length).tape = W.tape ∧ (W.drew.freeze ⟨g, 0, none⟩ s.length).output = W.output := by
      unfold World.freeze
      split <;> exact ⟨rfl, rfl, rfl⟩
    exact more_of_below ⟨hf.1.trans bel.os, hf.2.1.trans bel.tape, hf.2.2.trans bel.output, by rw [hsize]; exact bel.size, fun k hk => by rw [hother k (by omega)]; exact bel.block k hk⟩
theorem shownW_len (dead keyed : Bool) (key value : Word) : (shownW dead keyed key value).length ≤ key.length + value.length + 1 := by
  unfold shownW
  split
  · simp
  · split
    · simp; omega
    · omega
set_option maxRecDepth 100000 in
set_option maxHeartbeats 1600000 in
theorem shown_any (d t : Int) (ky dd : Bool) (key value : Word) (w : World) (hk : key.length ≤ 200) (hv : value.length ≤ 700) :
    Calls Tryz.prog 57 #[.agg #[.int .i64 d, .int .i64 t, .bool ky, .string (str key), .bool dd, .string (str value)]] w fun e w' => e = .returned (.string (str (shownW dd ky key value))) ∧ More w w' := by
  have ha := sadd (P := Tryz.prog) key [33] (by simp; omega)
  have hb := sadd (P := Tryz.prog) key [61] (by simp; omega)
  have hc := sadd (P := Tryz.prog) (key ++ [61]) value (by simp; omega)
  rw [show str [33] = { data := #[33] } from rfl] at ha
  rw [show str [61] = { data := #[61] } from rfl] at hb
  cases dd
  · cases ky
    · refine calls_wd ?_
      go_enter Tryz.func57, Tryz.ntmps57
      go_wp2
      go_ret
      exact ⟨by first | rfl | (simp [shownW]; done), more_wd _ _ _⟩
    · refine calls_wd ?_
      go_enter Tryz.func57, Tryz.ntmps57
      go_wp2
      go_ret
      exact ⟨by first | rfl | (simp [shownW]; done), more_wd _ _ _⟩
  · refine calls_wd ?_
    go_enter Tryz.func57, Tryz.ntmps57
    go_wp2
    go_ret
    exact ⟨by first | rfl | (simp [shownW]; done), more_wd _ _ _⟩
set_option maxRecDepth 100000 in
set_option maxHeartbeats 1600000 in
theorem cnums_any (l : List Int) (v : Value) (w : World) (hv : ZRd w v l) (hl : l.length ≤ 80) (hb : ∀ n ∈ l, Bd n) : Calls Tryz.prog 58 #[v] w fun e w' => e = .returned (.string (str (numsW l))) ∧ More w w' := by
  have HV := Lib.hid (fun W (hm : More w W) => hv.more hm)
  have HB := Lib.hid hb
  obtain ⟨a, cap, rfl, hcap, hmx, hcc⟩ := hv.out
  obtain ⟨N, hN⟩ : ∃ N, l.length = N := ⟨_, rfl⟩
  rw [hN] at hcap hl ⊢
  have HN := Lib.hid hN
  have HV2 : Hid (∀ W, More w W → ZRd W (.slice a N cap) l) := Lib.hid (fun W hm => by have := HV.out W hm; rwa [hN] at this)
  clear hN hv hcc hb HV
  refine calls_wd ?_
  go_enter Tryz.func58, Tryz.ntmps58
  go_wp2
  go_loopw [8] (fun s8 wr => ∃ (k : Nat), k ≤ N ∧ s8 = .int .i64 k ∧ Hid (BN w wr (sz w.heap.size []) (numsW (l.take k)))) (fun s8 _ => N - (intOf s8).toNat)
  case atStart => exact ⟨0, Nat.zero_le _, rfl, Lib.hid (BN.start _ _)⟩
  case round =>
    obtain ⟨k, hkN, rfl, HI⟩ := hrel
    by_cases hk : k < N
    · obtain ⟨x, hx⟩ : ∃ x, l[k]? = some x := ⟨_, List.getElem?_eq_getElem (by rw [HN.out]; exact hk)⟩
      have HX := Lib.hid hx
      have hbx := HB.out x (List.mem_of_getElem? hx)
      have hdl := digI_len hbx
      have HD := Lib.hid (fun W => cdig_any x hbx.1 hbx.2 W)
      have hnl : (numsW (l.take k)).length ≤ 21 * 80 := Nat.le_trans (numsW_len (fun n hn => HB.out n (List.mem_of_mem_take hn))) (by rw [List.length_take]; omega)
      have HST : Hid (numsW (l.take k) ++ (32 :: digI x) = numsW (l.take (k + 1))) := Lib.hid (flat_takeT _ hx).symm
      have hne : l ≠ [] := fun h => by rw [h] at hx; cases hx
      obtain ⟨a9, c9, h90, h91, h92, h93⟩ := (HV2.out _ HI.out.more).out
      rw [HN.out] at h90
      cases h90
      obtain ⟨b9, o9, rfl, hb9, hc9⟩ := h93 hne
      have hcell := hc9 k x hx
      have ha := sadd (P := Tryz.prog) [32] (digI x) (by simp; omega)
      rw [show str [32] = { data := #[32] } from rfl] at ha
      have HWR := Lib.hid (fun W (h : BN w W (sz w.heap.size []) (numsW (l.take k))) => bn_write h (32 :: digI x) (by simp) (by simp; omega))
      clear h91 h92 h93 hc9 hne hx hbx hdl hnl
      rw [← wd_nil wr]
      go_wp2_with (first
        | (go_at_call 13; ((with_reducible refine (HD.out _).mono ?_); rintro e w1 ⟨rfl, x1, n1, rfl⟩))
        | (go_at_call 44; refine (HWR.out _ (HI.out.go (more_wd _ _ _))).mono ?_; rintro e w3 ⟨rfl, hw3⟩; have HW3 := Lib.hid hw3; clear hw3; rw [← wd_nil w3]))
      go_roundw
      case rel => exact ⟨k + 1, by omega, by go_num, Lib.hid (by have h := HW3.out; rw [HST.out] at h; rw [wd_nil]; exact h)⟩
      case measure => simp [intOf]; omega
    · obtain rfl : k = N := by omega
      have HS := Lib.hid (bn_string HI.out)
      have hall : l.take k = l := List.take_of_length_le (by rw [HN.out]; exact Nat.le_refl _)
      rw [hall] at HS
      go_wp2_with (go_at_call 45; refine HS.out.mono ?_; rintro e w3 ⟨rfl, hw3⟩; have HW3 := Lib.hid hw3; clear hw3)
      go_ret
      exact ⟨rfl, HW3.out⟩
set_option maxRecDepth 100000 in
set_option maxHeartbeats 1600000 in
theorem rnums_any (l : List Int) (v : Value) (w : World) (hv : ZRd w v l) (hl : l.length ≤ 80) (hb : ∀ n ∈ l, Bd n) : Calls Tryz.prog 60 #[v] w fun e w' => e = .returned (.string (str (numsW l))) ∧ More w w' := by
  have HV := Lib.hid (fun W (hm : More w W) => hv.more hm)
  have HB := Lib.hid hb
  obtain ⟨a, cap, rfl, hcap, hmx, hcc⟩ := hv.out
  obtain ⟨N, hN⟩ : ∃ N, l.length = N := ⟨_, rfl⟩
  rw [hN] at hcap hl ⊢
  have HN := Lib.hid hN
  have HV2 : Hid (∀ W, More w W → ZRd W (.slice a N cap) l) := Lib.hid (fun W hm => by have := HV.out W hm; rwa [hN] at this)
  clear hN hv hcc hb HV
  refine calls_wd ?_
  go_enter Tryz.func60, Tryz.ntmps60
  go_wp2
  go_loopw [3, 4] (fun s3 s4 wr => ∃ (k : Nat) (m : Ext), k ≤ N ∧ s4 = .int .i64 k ∧ s3 = .string (str (numsW (l.take k))) ∧ wr = wd w [m.e] m.n) (fun _ s4 _ => N - (intOf s4).toNat)
  case atStart => exact ⟨0, ⟨#[], _⟩, Nat.zero_le _, rfl, rfl, (wd_empty _ _ _).symm⟩
  case round =>
    obtain ⟨k, m, hkN, rfl, rfl, rfl⟩ := hrel
    obtain ⟨S, hS⟩ : ∃ S, numsW (l.take k) = S := ⟨_, rfl⟩
    rw [hS]
    by_cases hk : k < N
    · obtain ⟨x, hx⟩ : ∃ x, l[k]? = some x := ⟨_, List.getElem?_eq_getElem (by rw [HN.out]; exact hk)⟩
      have hbx := HB.out x (List.mem_of_getElem? hx)
      have hdl := digI_len hbx
      have HD := Lib.hid (fun W => rdigI_any x hbx.1 hbx.2 W)
      have hnl : S.length ≤ 21 * 80 := by rw [← hS]; exact Nat.le_trans (numsW_len (fun n hn => HB.out n (List.mem_of_mem_take hn))) (by rw [List.length_take]; omega)
      obtain ⟨T, hT⟩ : ∃ T, numsW (l.take (k + 1)) = T := ⟨_, rfl⟩
      have hST : (S ++ [32]) ++ digI x = T := by rw [← hT, ← hS, List.append_assoc]; exact (flat_takeT _ hx).symm
      have HT := Lib.hid hT
      have hne : l ≠ [] := fun h => by rw [h] at hx; cases hx
      obtain ⟨a9, c9, h90, h91, h92, h93⟩ := (HV2.out _ (more_wd w [m.e] m.n)).out
      rw [HN.out] at h90
      cases h90
      obtain ⟨b9, o9, rfl, hb9, hc9⟩ := h93 hne
      have hcell := hc9 k x hx
      obtain ⟨D, hD⟩ : ∃ D, digI x = D := ⟨_, rfl⟩
      rw [hD] at hST HD hdl
      have ha := sadd (P := Tryz.prog) S [32] (by simp; omega)
      rw [show str [32] = { data := #[32] } from rfl] at ha
      have ha2 := saddT (P := Tryz.prog) hST (by rw [← hST]; simp; omega)
      clear h91 h92 h93 hc9 hne hx hbx hdl hnl hS hT hST hD
      go_wp2_with (first
        | (go_at_call 14; ((with_reducible refine (HD.out _).mono ?_); rintro e w1 ⟨rfl, x1, n1, rfl⟩)))
      go_roundw
      case rel => exact ⟨k + 1, ⟨m.e ++ x1, n1⟩, by omega, by go_num, by rw [HT.out], by rw [wd_merge]⟩
      case measure => simp [intOf]; omega
    · obtain rfl : k = N := by omega
      have hall : l.take k = l := List.take_of_length_le (by rw [HN.out]; exact Nat.le_refl _)
      rw [hall] at hS
      have HS := Lib.hid hS
      clear hall hS
      go_wp2
      go_ret
      exact ⟨by rw [HS.out]; rfl, more_wd _ _ _⟩
end Go.Proofs.YtifoekadjnlhcaaGreatDoor
