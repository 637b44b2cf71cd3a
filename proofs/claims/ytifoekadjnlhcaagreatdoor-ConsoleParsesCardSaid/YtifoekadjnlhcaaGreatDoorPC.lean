/- the document's console: take. -/
import Derived.Test.YtifoekadjnlhcaaGreatDoorPB
import Derived.Test.YtifoekadjnlhcaaGreatDoorMG
import Derived.Test.YtifoekadjnlhcaaGreatDoorMX
import Derived.Test.YtifoekadjnlhcaaGreatDoorMN
import Derived.Test.YtifoekadjnlhcaaGreatDoorMO
import Derived.Test.YtifoekadjnlhcaaGreatDoorPA
namespace Go.Proofs.YtifoekadjnlhcaaGreatDoor
open Go.ChangeShapes Go.WideShapes Go.ChangeAt Go.RowKit
set_option linter.unusedVariables false
set_option linter.unusedSimpArgs false
structure IRd (w : World) (v : Value) (ns : List Nat) : Prop where
  out : ∃ a cap, v = .slice a ns.length cap ∧ ns.length ≤ cap ∧ cap ≤ maxLen ∧ (ns ≠ [] → ∃ b off, a = some ⟨b, off, none⟩ ∧ b < w.heap.size ∧ ∀ i k, ns[i]? = some k → w.cell? ⟨b, off + i, none⟩ = some (.int .i64 (k : Nat)))
theorem IRd.more {w w' : World} {v : Value} {ns : List Nat} (h : IRd w v ns) (hm : More w w') : IRd w' v ns := by
  obtain ⟨a, cap, rfl, h1, h2, h3⟩ := h.out
  refine ⟨⟨a, cap, rfl, h1, h2, fun hne => ?_⟩⟩
  obtain ⟨b, off, ha, hb, hc⟩ := h3 hne
  have bel := hm.below
  exact ⟨b, off, ha, Nat.lt_of_lt_of_le hb bel.size, fun i k hi => by rw [bel.cell hb]; exact hc i k hi⟩
def sCell (s : Word) : Value := .string (str s)
def nCell (k : Nat) : Value := .int .i64 (k : Nat)
theorem own_get {W : World} {B : Nat} {E : TypeId} {g n cap : Nat} {xs : List Value} (h : W.ownsRow B E 1 (.slice (some ⟨g, 0, none⟩) n cap) n xs) (i : Nat) (x : Value) (hx : xs[i]? = some x) : W.cell? ⟨g, i, none⟩ = some x := by
  obtain ⟨cur, he, _, hn, hm, hs, ht, hl⟩ := owns_block h
  simp only [World.cell?, he]
  have hi : i < n * 1 := by have := (List.getElem?_eq_some_iff.1 hx).1; omega
  rw [← ht, List.getElem?_take, if_pos hi] at hx
  simpa using hx
theorem own_shape {W : World} {B size n : Nat} {E : TypeId} {v : Value} {xs : List Value} (h : W.ownsRow B E size v n xs) : (v = .slice none 0 0 ∧ n = 0) ∨ ∃ g cap, v = .slice (some ⟨g, 0, none⟩) n cap ∧ n ≤ cap ∧ cap ≤ maxLen := by
  rcases h.2 with h2 | ⟨g, cap, cur, hv, _, _, hn, hm, _⟩
  · exact .inl h2
  · exact .inr ⟨g, cap, hv, hn, hm⟩
theorem srd_own {W : World} {B : Nat} {v : Value} {l : List Word} (h : W.ownsRow B 9 1 v l.length (l.map sCell)) (hs : ∀ s ∈ l, s.length ≤ 1099511627776) : SRd W v l := by
  rcases own_shape h with ⟨rfl, h0⟩ | ⟨g, cap, rfl, hn, hm⟩
  · have : l = [] := List.eq_nil_of_length_eq_zero h0
    subst this
    exact ⟨⟨none, 0, rfl, Nat.le_refl _, Nat.zero_le _, fun h => absurd rfl h⟩, hs⟩
  · exact ⟨⟨_, cap, rfl, hn, hm, fun _ => ⟨g, 0, rfl, owns_lt h, fun i s hi => by rw [Nat.zero_add]; exact own_get h i _ (by rw [List.getElem?_map, hi]; rfl)⟩⟩, hs⟩
theorem ird_own {W : World} {B : Nat} {v : Value} {l : List Nat} (h : W.ownsRow B 3 1 v l.length (l.map nCell)) : IRd W v l := by
  rcases own_shape h with ⟨rfl, h0⟩ | ⟨g, cap, rfl, hn, hm⟩
  · have : l = [] := List.eq_nil_of_length_eq_zero h0
    subst this
    exact ⟨⟨none, 0, rfl, Nat.le_refl _, Nat.zero_le _, fun h => absurd rfl h⟩⟩
  · exact ⟨⟨_, cap, rfl, hn, hm, fun _ => ⟨g, 0, rfl, owns_lt h, fun i s hi => by rw [Nat.zero_add]; exact own_get h i _ (by rw [List.getElem?_map, hi]; rfl)⟩⟩⟩
theorem wp_append_base {P : Program} {ops : Array Oper} {rest : List Oper} {o : Oper} {a : Act} {Q : Exit → Act → World → Prop} (hgd : o.guard = none) (s x : Operand) (t : TypeId)
    (ho : o.op = .call { callee := .builtin .append, args := #[s, x], argTypes := #[t, t] })
    (B : Nat) (e : TypeId) (i : TypeInfo) (z : Value) (size bytes : Nat) (ht : P.underlying t = some (.slice e)) (hi : P.info? e = some i) (hz : i.zero = some z)
    (hsize : i.size = size) (hby : i.bytes = bytes) (hzs : z.cells.size = size) (hsz : 0 < size)
    {w : World} {L : List (Array Obj)} {n : Nat} (v : Value) (k : Nat) (xs : List Value) (hs : a.eval s = v) (hown : w.ownsRow B e size v k xs)
    (C : Array Value) (t' : TypeId) (q c : Nat) (hx : a.eval x = .slice (some ⟨sz w.heap.size (shape L), 0, none⟩) q c) (hl : C.size = q * size) (h1 : ∀ u ∈ C.toList, u.oneCell' = true)
    (h63 : k + q ≤ maxLen) (hbytes : (k + q) * bytes ≤ 140737488355328) (hB : B ≤ w.heap.size)
    (h : ∀ (v' : Value) (u : World), u.ownsRow B e size v' (k + q) (xs ++ C.toList) → w.grownBy u v.ownBlock → wpList P ops Q rest (a.put o.dst v') (wd u [] u.drawn)) :
    wpList P ops Q (o :: rest) a (wd w (#[.cells C t'] :: L) n) := by
  have hm : More w (wd w (#[.cells C t'] :: L) n) := more_wd _ _ _
  refine wpList_append_own _ hgd s x t ho B e i z size bytes ht hi hz hsize hby hzs hsz v k xs hs (owns_more hown hm) _ q c C.toList hx (by simpa using hl) (fun j u hu => ?_) h1 h63 hbytes (by rw [wd_size, shape_cons]; have := sz_le w.heap.size (shape L); simp only [sz]; omega) ?_
  · have e1 : ((⟨sz w.heap.size (shape L), 0, none⟩ : Addr).add j) = ⟨sz w.heap.size (shape L), j, none⟩ := by
      unfold Addr.add; split <;> simp_all
    rw [e1, wd_cell w L n w.heap.size j (shape L) C t' (0, 0) rfl rfl]
    simpa using hu
  · intro v' w' hown' hg _
    exact h v' w' hown' (grown_trans (grown_more hm _) hg)
structure RTake (w w' : World) (e : Ending) (cs : List UInt8) (ws : List Word) : Prop where
  out : match takeR cs ws with
    | none => e = .returned (.tuple #[.slice none 0 0, .slice none 0 0, .bool false]) ∧ More w w'
    | some (s, n) => ∃ vs vn x k, e = .returned (.tuple #[vs, vn, .bool true]) ∧ w' = plus w x k ∧ SRd w' vs s ∧ IRd w' vn n
theorem rtake_no {w w' : World} {e : Ending} {cs : List UInt8} {ws : List Word} (h : takeR cs ws = none) (he : e = .returned (.tuple #[.slice none 0 0, .slice none 0 0, .bool false])) (hm : More w w') : RTake w w' e cs ws := ⟨by rw [h]; exact ⟨he, hm⟩⟩
theorem rtake_yes {w w' : World} {e : Ending} {cs : List UInt8} {ws s : List Word} {n : List Nat} {vs vn : Value} (h : takeR cs ws = some (s, n)) (he : e = .returned (.tuple #[vs, vn, .bool true])) (hm : More w w') (h1 : SRd w' vs s) (h2 : IRd w' vn n) : RTake w w' e cs ws := ⟨by
  rw [h]
  obtain ⟨x, k, hx⟩ := hm
  exact ⟨vs, vn, x, k, he, hx, h1, h2⟩⟩
structure TakI (w u : World) (cs : List UInt8) (ws : List Word) (k : Nat) (sl : List Word) (nl : List Nat) (vs vn : Value) : Prop where
  eq : takeR cs ws = match takeR (cs.drop k) (ws.drop k) with
    | none => none
    | some (s, n) => some (sl ++ s, nl ++ n)
  more : More w u
  s : u.ownsRow w.heap.size 9 1 vs sl.length (sl.map sCell)
  n : u.ownsRow w.heap.size 3 1 vn nl.length (nl.map nCell)
  small : ∀ x ∈ sl, x.length ≤ 1099511627776
  ls : sl.length ≤ k
  ln : nl.length ≤ k
theorem TakI.start (w : World) (cs : List UInt8) (ws : List Word) : TakI w w cs ws 0 [] [] (.slice none 0 0) (.slice none 0 0) :=
  ⟨by simp only [List.drop_zero, List.nil_append]; cases takeR cs ws <;> rfl, More.refl w, World.ownsRow_nil w _ _ 1, World.ownsRow_nil w _ _ 1, fun x hx => (by cases hx), Nat.le_refl _, Nat.le_refl _⟩
section
variable {w u u' : World} {cs : List UInt8} {ws : List Word} {k : Nat} {sl : List Word} {nl : List Nat} {vs vn v' : Value} {c : UInt8} {x : Word}
theorem TakI.go (h : TakI w u cs ws k sl nl vs vn) (hm : More u u') : TakI w u' cs ws k sl nl vs vn := ⟨h.eq, h.more.trans hm, owns_more h.s hm, owns_more h.n hm, h.small, h.ls, h.ln⟩
theorem takeR_at (hc : cs[k]? = some c) (hx : ws[k]? = some x) : takeR (cs.drop k) (ws.drop k) = takeR (c :: cs.drop (k + 1)) (x :: ws.drop (k + 1)) := by
  have h1 := (List.getElem?_eq_some_iff.1 hc)
  have h2 := (List.getElem?_eq_some_iff.1 hx)
  obtain ⟨l1, e1⟩ := h1
  obtain ⟨l2, e2⟩ := h2
  rw [List.drop_eq_getElem_cons l1, List.drop_eq_getElem_cons l2, e1, e2]
theorem more_grown {B : Nat} {v : Value} {E : TypeId} {n : Nat} {xs : List Value} (hm : More w u) (ho : u.ownsRow w.heap.size E 1 v n xs) (hg : u.grownBy u' v.ownBlock) : More w u' :=
  more_of_below (hm.below.grown hg hm.below.size (fun k hk => (ho.lt k hk).1))
theorem own_other {E E' : TypeId} {v q : Value} {n m : Nat} {xs ys : List Value} {B : Nat} (h : u.ownsRow B E 1 q m ys) (ho : u.ownsRow B E' 1 v n xs) (hE : E ≠ E') (hg : u.grownBy u' v.ownBlock) : u'.ownsRow B E 1 q m ys := by
  refine owns_at h (fun g hgo => hg.block g (owns_block_lt h hgo) (fun he => ?_))
  rcases h.2 with ⟨rfl, _⟩ | ⟨g1, cap, cur, rfl, _, hb, _⟩
  · simp [Value.ownBlock] at hgo
  · simp only [Value.ownBlock, Option.some.injEq] at hgo
    subst hgo
    exact Lib.ownBlock_ne ho hb hE he.symm
theorem TakI.text (h : TakI w u cs ws k sl nl vs vn) (hc : cs[k]? = some c) (h1 : c = 115) (hx : ws[k]? = some x) (hl : x.length ≤ 1099511627776) (ho : u'.ownsRow w.heap.size 9 1 v' (sl.length + 1) (sl.map sCell ++ [sCell x])) (hg : u.grownBy u' vs.ownBlock) : TakI w u' cs ws (k + 1) (sl ++ [x]) nl v' vn := by
  refine ⟨?_, more_grown (B := 0) h.more h.s hg, by simpa using ho, own_other h.n h.s (by decide) hg, fun y hy => ?_, by simp; exact h.ls, Nat.le_succ_of_le h.ln⟩
  · rw [h.eq, takeR_at hc hx, takeR, if_pos h1]
    cases takeR (cs.drop (k + 1)) (ws.drop (k + 1)) with
    | none => rfl
    | some p => obtain ⟨s, n⟩ := p; simp
  · rcases List.mem_append.1 hy with hy | hy
    · exact h.small y hy
    · simp at hy; subst hy; exact hl
theorem TakI.num {q : Nat} (h : TakI w u cs ws k sl nl vs vn) (hc : cs[k]? = some c) (h1 : c ≠ 115) (hx : ws[k]? = some x) (hq : numW x = some q) (hy : ¬ (c = 121 ∧ 1 < q)) (ho : u'.ownsRow w.heap.size 3 1 v' (nl.length + 1) (nl.map nCell ++ [nCell q])) (hg : u.grownBy u' vn.ownBlock) : TakI w u' cs ws (k + 1) sl (nl ++ [q]) vs v' := by
  refine ⟨?_, more_grown (B := 0) h.more h.n hg, own_other h.s h.n (by decide) hg, by simpa using ho, h.small, Nat.le_succ_of_le h.ls, by simp; exact h.ln⟩
  rw [h.eq, takeR_at hc hx, takeR, if_neg h1, hq]
  dsimp only
  rw [if_neg hy]
  cases takeR (cs.drop (k + 1)) (ws.drop (k + 1)) with
  | none => rfl
  | some p => obtain ⟨s, n⟩ := p; simp
theorem TakI.no (h : TakI w u cs ws k sl nl vs vn) (hc : cs[k]? = some c) (h1 : c ≠ 115) (hx : ws[k]? = some x) (hq : numW x = none) : takeR cs ws = none := by
  rw [h.eq, takeR_at hc hx, takeR, if_neg h1, hq]
theorem TakI.big {q : Nat} (h : TakI w u cs ws k sl nl vs vn) (hc : cs[k]? = some c) (h1 : c ≠ 115) (hx : ws[k]? = some x) (hq : numW x = some q) (hy : c = 121 ∧ 1 < q) : takeR cs ws = none := by
  rw [h.eq, takeR_at hc hx, takeR, if_neg h1, hq]
  dsimp only
  rw [if_pos hy]
theorem TakI.done (h : TakI w u cs ws k sl nl vs vn) (hc : cs.length = k) (hw : ws.length = k) : takeR cs ws = some (sl, nl) := by
  rw [h.eq, List.drop_of_length_le (by omega), List.drop_of_length_le (by omega)]
  simp [takeR]
end
theorem takeR_len : ∀ {cs : List UInt8} {ws : List Word}, cs.length ≠ ws.length → takeR cs ws = none
  | [], [], h => absurd rfl h
  | [], _ :: _, _ => rfl
  | _ :: _, [], _ => rfl
  | c :: cs, x :: ws, h => by
    have ih := takeR_len (cs := cs) (ws := ws) (by simpa using h)
    rw [takeR, ih]
    split
    · rfl
    · cases numW x with
      | none => rfl
      | some k => dsimp only; split <;> rfl
theorem numR_val {x : Word} : (numW x = none ∧ numR x = (0, false)) ∨ ∃ q, numW x = some q ∧ numR x = (q, true) := by
  unfold numR
  cases h : numW x with
  | none => exact .inl ⟨rfl, rfl⟩
  | some q => exact .inr ⟨q, rfl, rfl⟩
theorem info_str3 : (Tryz.prog.info? 9).map (fun i => (i.zero, i.size, i.bytes)) = some (some (.string ByteArray.empty), 1, 16) := by kernel_rfl
theorem info_int3 : (Tryz.prog.info? 3).map (fun i => (i.zero, i.size, i.bytes)) = some (some (.int .i64 0), 1, 8) := by kernel_rfl
end Go.Proofs.YtifoekadjnlhcaaGreatDoor
namespace Go.Proofs.YtifoekadjnlhcaaGreatDoor
open Go.ChangeShapes Go.WideShapes Go.ChangeAt Go.RowKit
set_option linter.unusedVariables false
set_option linter.unusedSimpArgs false
set_option maxRecDepth 100000 in
set_option maxHeartbeats 3200000 in
theorem rtake_any (cs : List UInt8) (ws : List Word) (v : Value) (w : World) (hv : SRd w v ws) (hl : cs.length ≤ 64) :
    Calls Tryz.prog 29 #[.string (str cs), v] w fun e w' => RTake w w' e cs ws := by
  have hsz := str_size cs
  have HV := Lib.hid (fun W (hm : More w W) => hv.more hm)
  have HSM := Lib.hid hv.small
  obtain ⟨a, cap, rfl, hcap, hmx, hcc⟩ := hv.out
  obtain ⟨N, hN⟩ : ∃ N, ws.length = N := ⟨_, rfl⟩
  obtain ⟨M, hM⟩ : ∃ M, cs.length = M := ⟨_, rfl⟩
  rw [hN] at hcap ⊢
  rw [hM] at hsz hl
  have HV2 : Hid (∀ W, More w W → SRd W (.slice a N cap) ws) := Lib.hid (fun W hm => by have := HV.out W hm; rwa [hN] at this)
  have HN := Lib.hid hN
  have HM := Lib.hid hM
  clear hN hM hv hcc HV
  by_cases hNM : N = M
  · subst hNM
    obtain ⟨i0, hi, hz0, hz1, hz2⟩ := info_parts info_str3
    obtain ⟨i3, ji, jz0, jz1, jz2⟩ := info_parts info_int3
    refine calls_wd ?_
    go_enter Tryz.func29, Tryz.ntmps29
    go_wp2
    go_loopw [7, 8, 9] (fun s7 s8 s9 wr => ∃ (k : Nat) (sl : List Word) (nl : List Nat) (vs vn : Value), k ≤ N ∧ s9 = .int .i64 k ∧ vs = s7 ∧ vn = s8 ∧ Hid (TakI w wr cs ws k sl nl vs vn)) (fun _ _ s9 _ => N - (intOf s9).toNat)
    case atStart => exact ⟨0, [], [], _, _, Nat.zero_le _, rfl, rfl, rfl, Lib.hid (TakI.start w cs ws)⟩
    case round =>
      obtain ⟨k, sl, nl, vs, vn, hkN, rfl, rfl, rfl, HI⟩ := hrel
      have hls := HI.out.ls
      have hln := HI.out.ln
      by_cases hk : k < N
      · obtain ⟨x, hx⟩ : ∃ x, ws[k]? = some x := ⟨_, List.getElem?_eq_getElem (by rw [HN.out]; exact hk)⟩
        obtain ⟨c, hc⟩ : ∃ c, cs[k]? = some c := ⟨_, List.getElem?_eq_getElem (by rw [HM.out]; exact hk)⟩
        have HX := Lib.hid hx
        have HC := Lib.hid hc
        have hik : ∀ W, (Instr.index 9 (.string (str cs)) (.int .i64 (k : Nat))).run Tryz.prog W = .ok (.int .u8 c.toNat) W := fun W => sindex (P := Tryz.prog) 9 Tryz.underlying9 cs k c hc W
        have hxl := HSM.out x (List.mem_of_getElem? hx)
        have HXL := Lib.hid hxl
        have HNUM := Lib.hid (fun W => rnumber_any x W hxl)
        have hne : ws ≠ [] := fun h => by rw [h] at hx; cases hx
        obtain ⟨a9, c9, h90, h91, h92, h93⟩ := (HV2.out _ HI.out.more).out
        rw [HN.out] at h90
        cases h90
        obtain ⟨b9, o9, rfl, hb9, hc9⟩ := h93 hne
        have hcell := hc9 k x hx
        clear h91 h92 h93 hc9 hne hx hc hxl
        have hcl := c.toNat_lt
        by_cases h115 : c = 115
        · subst h115
          obtain ⟨q, b, hqb⟩ : ∃ q b, numR x = (q, b) := ⟨_, _, rfl⟩
          have HQB := Lib.hid hqb
          clear hqb
          rw [← wd_nil wr]
          go_wp2_with (first
            | (go_at_call 53; refine (HNUM.out _).mono ?_; rintro e w1 hs; have hs2 := hs.out; rw [HQB.out] at hs2; obtain ⟨rfl, x1, n1, rfl⟩ := hs2; clear hs)
            | (at_builtin; refine wp_append_base (L := [x1]) rfl _ _ 39 rfl w.heap.size 9 i0 _ 1 16 Tryz.underlying39 hi hz0 hz1 hz2 rfl (by decide) _ _ _ rfl HI.out.s #[.string (str x)] 9 1 1 rfl rfl (by simp [Value.oneCell']) (by unfold maxLen; omega) (by omega) HI.out.more.below.size ?_; intro v7 u7 ho7 hg7; have HO7 := Lib.hid ho7; have HG7 := Lib.hid hg7; clear ho7 hg7))
          go_roundw
          case rel => exact ⟨k + 1, sl ++ [x], nl, v7, vn, by omega, by go_num, rfl, rfl, Lib.hid (HI.out.text HC.out rfl HX.out HXL.out HO7.out HG7.out)⟩
          case measure => simp [intOf]; omega
        · have hcb : ((c.toNat : Int) == 115) = false := by
            rw [beq_eq_false_iff_ne]
            intro h
            exact h115 (UInt8.toNat_inj.1 (by show c.toNat = 115; omega))
          rcases numR_val (x := x) with ⟨hq, hR⟩ | ⟨q, hq, hR⟩
          · have HR := Lib.hid hR
            have HNO := Lib.hid (HI.out.no HC.out h115 HX.out hq)
            clear hR hq
            rw [← wd_nil wr]
            go_wp2_with (first
              | (go_at_call 53; refine (HNUM.out _).mono ?_; rintro e w1 hs; have hs2 := hs.out; rw [HR.out] at hs2; obtain ⟨rfl, x1, n1, rfl⟩ := hs2; clear hs))
            refine bodyPost_ret (v := .tuple #[.slice none 0 0, .slice none 0 0, .bool false]) (by first | (simp [results, Tryz.results29, go_sem]; done) | (simp [results, Tryz.results29, go_sem]; rfl)) rfl ?_
            exact rtake_no HNO.out rfl (HI.out.more.trans (more_wd _ _ _))
          · have HR := Lib.hid hR
            clear hR
            by_cases hy : c = 121 ∧ 1 < q
            · have HNO := Lib.hid (HI.out.big HC.out h115 HX.out hq hy)
              obtain ⟨rfl, hq1⟩ := hy
              clear hq
              rw [← wd_nil wr]
              go_wp2_with (first
                | (go_at_call 53; refine (HNUM.out _).mono ?_; rintro e w1 hs; have hs2 := hs.out; rw [HR.out] at hs2; obtain ⟨rfl, x1, n1, rfl⟩ := hs2; clear hs))
              refine bodyPost_ret (v := .tuple #[.slice none 0 0, .slice none 0 0, .bool false]) (by first | (simp [results, Tryz.results29, go_sem]; done) | (simp [results, Tryz.results29, go_sem]; rfl)) rfl ?_
              exact rtake_no HNO.out rfl (HI.out.more.trans (more_wd _ _ _))
            · have HQ := Lib.hid hq
              have HY := Lib.hid hy
              clear hq
              by_cases h121 : c = 121
              · have hq1 : ¬ 1 < q := fun h => hy ⟨h121, h⟩
                have hcb2 : ((c.toNat : Int) == 121) = true := by rw [h121]; rfl
                clear hy
                rw [← wd_nil wr]
                go_wp2_with (first
                  | (go_at_call 53; refine (HNUM.out _).mono ?_; rintro e w1 hs; have hs2 := hs.out; rw [HR.out] at hs2; obtain ⟨rfl, x1, n1, rfl⟩ := hs2; clear hs)
                  | (at_builtin; refine wp_append_base (L := [x1]) rfl _ _ 44 rfl w.heap.size 3 i3 _ 1 8 Tryz.underlying44 ji jz0 jz1 jz2 rfl (by decide) _ _ _ rfl HI.out.n #[.int .i64 (q : Nat)] 3 1 1 rfl rfl (by simp [Value.oneCell']) (by unfold maxLen; omega) (by omega) HI.out.more.below.size ?_; intro v7 u7 ho7 hg7; have HO7 := Lib.hid ho7; have HG7 := Lib.hid hg7; clear ho7 hg7))
                go_roundw
                case rel => exact ⟨k + 1, sl, nl ++ [q], vs, v7, by omega, by go_num, rfl, rfl, Lib.hid (HI.out.num HC.out h115 HX.out HQ.out HY.out HO7.out HG7.out)⟩
                case measure => simp [intOf]; omega
              · have hcb2 : ((c.toNat : Int) == 121) = false := by
                  rw [beq_eq_false_iff_ne]
                  intro h
                  exact h121 (UInt8.toNat_inj.1 (by show c.toNat = 121; omega))
                clear hy
                rw [← wd_nil wr]
                go_wp2_with (first
                  | (go_at_call 53; refine (HNUM.out _).mono ?_; rintro e w1 hs; have hs2 := hs.out; rw [HR.out] at hs2; obtain ⟨rfl, x1, n1, rfl⟩ := hs2; clear hs)
                  | (at_builtin; refine wp_append_base (L := [x1]) rfl _ _ 44 rfl w.heap.size 3 i3 _ 1 8 Tryz.underlying44 ji jz0 jz1 jz2 rfl (by decide) _ _ _ rfl HI.out.n #[.int .i64 (q : Nat)] 3 1 1 rfl rfl (by simp [Value.oneCell']) (by unfold maxLen; omega) (by omega) HI.out.more.below.size ?_; intro v7 u7 ho7 hg7; have HO7 := Lib.hid ho7; have HG7 := Lib.hid hg7; clear ho7 hg7))
                go_roundw
                case rel => exact ⟨k + 1, sl, nl ++ [q], vs, v7, by omega, by go_num, rfl, rfl, Lib.hid (HI.out.num HC.out h115 HX.out HQ.out HY.out HO7.out HG7.out)⟩
                case measure => simp [intOf]; omega
      · obtain rfl : k = N := by omega
        rw [← wd_nil wr]
        go_wp2
        refine bodyPost_ret (v := .tuple #[vs, vn, .bool true]) (by first | (simp [results, Tryz.results29, go_sem]; done) | (simp [results, Tryz.results29, go_sem]; rfl)) rfl ?_
        exact rtake_yes (HI.out.done HM.out HN.out) rfl HI.out.more (srd_own HI.out.s HI.out.small) (ird_own HI.out.n)
  · have HNO := Lib.hid (takeR_len (cs := cs) (ws := ws) (by rw [HM.out, HN.out]; omega))
    have hNM2 : ((N : Int) != (M : Int)) = true := by rw [bne_iff_ne]; omega
    refine calls_wd ?_
    go_enter Tryz.func29, Tryz.ntmps29
    go_wp2
    refine bodyPost_ret (v := .tuple #[.slice none 0 0, .slice none 0 0, .bool false]) (by first | (simp [results, Tryz.results29, go_sem]; done) | (simp [results, Tryz.results29, go_sem]; rfl)) rfl ?_
    exact rtake_no HNO.out rfl (more_wd _ _ _)
set_option maxRecDepth 100000 in
set_option maxHeartbeats 3200000 in
theorem rrq_0 (t : Word) (p : Nat) (y : Nat) (c : Bool) (hy : ((y : Int) == 1) = c) (w : World) (vS vN : Value) (hs : SRd w vS [t]) (hn : IRd w vN [p, y]) : Calls Tryz.prog 30 #[.int .u8 0, vS, vN] w fun e w' => e = .returned (.agg (rq ({ reqBlank 0 with topic := t, parts := p, compact := c } : Req) none 0)) ∧ More w w' := by
  obtain ⟨aS, cS, hvS, hcS, hmS, hS⟩ := hs.out
  obtain ⟨bS, oS, rfl, hbS, hS⟩ := hS (by simp)
  have hvS : vS = .slice (some ⟨bS, oS, none⟩) 1 cS := hvS
  have hcS : 1 ≤ cS := hcS
  have s0 := hS 0 _ rfl
  rw [Nat.add_zero] at s0
  subst hvS
  obtain ⟨aN, cN, hvN, hcN, hmN, hN⟩ := hn.out
  obtain ⟨bN, oN, rfl, hbN, hN⟩ := hN (by simp)
  have hvN : vN = .slice (some ⟨bN, oN, none⟩) 2 cN := hvN
  have hcN : 2 ≤ cN := hcN
  have n0 := hN 0 _ rfl
  have n1 := hN 1 _ rfl
  rw [Nat.add_zero] at n0
  subst hvN
  clear hS hs hn hmS hN hmN
  refine calls_wd ?_
  go_enter Tryz.func30, Tryz.ntmps30
  go_wp2
  refine wp_region_mixf (fun (s : Req × Option Addr × Nat) => wd w [#[.cells (rq s.1 s.2.1 s.2.2) 27], #[.cells (rq (reqBlank 0) none 0) 27]] (w.drawn + 1)) ((reqBlank 0, none, 0)) [0, 1, 2, 3, 4, 5, 6, 7, 8, 9] [10, 11, 12, 13, 14, 15] [true, true, true, true, true, true, true, true, true, true] [false, false, false, false, false, false, false, false, false, false, true, true, true, true, true, true] rfl ⟨rfl, rfl⟩ (by kernel_rfl) (by kernel_rfl) (fun _ _ d _ _ h => by cases d <;> exact h) ?_
  apply Exists.intro
  refine ⟨?_, ?_⟩
  · intro E
    simp only [sel_t, sel_f, sel_n]
    repeat (go_big_quiet_step ((fail)))
    exact wpQuiet_nil rfl
  simp only [sel_t, sel_f, sel_n, loudly_cons, loudly_nil]
  go_wp2
  refine ⟨⟨(_, _, _), rfl⟩, ?_⟩
  rw [loudly_cons]
  go_wp2
  refine ⟨⟨(_, _, _), rfl⟩, ?_⟩
  rw [loudly_cons]
  go_wp2
  refine ⟨⟨(_, _, _), rfl⟩, ?_⟩
  rw [loudly_cons]
  go_wp2
  refine ⟨⟨(_, _, _), rfl⟩, ?_⟩
  rw [loudly_cons]
  go_wp2
  refine ⟨⟨(_, _, _), rfl⟩, ?_⟩
  rw [loudly_cons]
  go_wp2
  refine ⟨⟨(_, _, _), rfl⟩, ?_⟩
  rw [loudly_nil]
  go_wp2
  refine bodyPost_ret (v := .agg (rq ({ reqBlank 0 with topic := t, parts := p, compact := c } : Req) none 0)) ?_ rfl ⟨rfl, more_wd _ _ _⟩
  simp [results, Tryz.results30, go_sem]
  try rfl
set_option maxRecDepth 100000 in
set_option maxHeartbeats 3200000 in
theorem rrq_1 (t : Word)  (w : World) (vS vN : Value) (hs : SRd w vS [t]) (hn : IRd w vN []) : Calls Tryz.prog 30 #[.int .u8 1, vS, vN] w fun e w' => e = .returned (.agg (rq ({ reqBlank 1 with topic := t } : Req) none 0)) ∧ More w w' := by
  obtain ⟨aS, cS, hvS, hcS, hmS, hS⟩ := hs.out
  obtain ⟨bS, oS, rfl, hbS, hS⟩ := hS (by simp)
  have hvS : vS = .slice (some ⟨bS, oS, none⟩) 1 cS := hvS
  have hcS : 1 ≤ cS := hcS
  have s0 := hS 0 _ rfl
  rw [Nat.add_zero] at s0
  subst hvS
  clear hS hs hn hmS
  refine calls_wd ?_
  go_enter Tryz.func30, Tryz.ntmps30
  go_wp2
  refine bodyPost_ret (v := .agg (rq ({ reqBlank 1 with topic := t } : Req) none 0)) ?_ rfl ⟨rfl, more_wd _ _ _⟩
  simp [results, Tryz.results30, go_sem]
  try rfl
set_option maxRecDepth 100000 in
set_option maxHeartbeats 3200000 in
theorem rrq_2 (t : Word)  (w : World) (vS vN : Value) (hs : SRd w vS [t]) (hn : IRd w vN []) : Calls Tryz.prog 30 #[.int .u8 2, vS, vN] w fun e w' => e = .returned (.agg (rq ({ reqBlank 2 with topic := t } : Req) none 0)) ∧ More w w' := by
  obtain ⟨aS, cS, hvS, hcS, hmS, hS⟩ := hs.out
  obtain ⟨bS, oS, rfl, hbS, hS⟩ := hS (by simp)
  have hvS : vS = .slice (some ⟨bS, oS, none⟩) 1 cS := hvS
  have hcS : 1 ≤ cS := hcS
  have s0 := hS 0 _ rfl
  rw [Nat.add_zero] at s0
  subst hvS
  clear hS hs hn hmS
  refine calls_wd ?_
  go_enter Tryz.func30, Tryz.ntmps30
  go_wp2
  refine bodyPost_ret (v := .agg (rq ({ reqBlank 2 with topic := t } : Req) none 0)) ?_ rfl ⟨rfl, more_wd _ _ _⟩
  simp [results, Tryz.results30, go_sem]
  try rfl
set_option maxRecDepth 100000 in
set_option maxHeartbeats 3200000 in
theorem rrq_4 (t : Word) (i : Nat) (o : Nat) (m : Nat) (w : World) (vS vN : Value) (hs : SRd w vS [t]) (hn : IRd w vN [i, o, m]) : Calls Tryz.prog 30 #[.int .u8 4, vS, vN] w fun e w' => e = .returned (.agg (rq ({ reqBlank 4 with topic := t, index := i, offset := o, most := m } : Req) none 0)) ∧ More w w' := by
  obtain ⟨aS, cS, hvS, hcS, hmS, hS⟩ := hs.out
  obtain ⟨bS, oS, rfl, hbS, hS⟩ := hS (by simp)
  have hvS : vS = .slice (some ⟨bS, oS, none⟩) 1 cS := hvS
  have hcS : 1 ≤ cS := hcS
  have s0 := hS 0 _ rfl
  rw [Nat.add_zero] at s0
  subst hvS
  obtain ⟨aN, cN, hvN, hcN, hmN, hN⟩ := hn.out
  obtain ⟨bN, oN, rfl, hbN, hN⟩ := hN (by simp)
  have hvN : vN = .slice (some ⟨bN, oN, none⟩) 3 cN := hvN
  have hcN : 3 ≤ cN := hcN
  have n0 := hN 0 _ rfl
  have n1 := hN 1 _ rfl
  have n2 := hN 2 _ rfl
  rw [Nat.add_zero] at n0
  subst hvN
  clear hS hs hn hmS hN hmN
  refine calls_wd ?_
  go_enter Tryz.func30, Tryz.ntmps30
  go_wp2
  refine wp_region_mixf (fun (s : Req × Option Addr × Nat) => wd w [#[.cells (rq s.1 s.2.1 s.2.2) 27], #[.cells (rq (reqBlank 0) none 0) 27]] (w.drawn + 1)) ((reqBlank 4, none, 0)) [0, 1, 2, 3, 4, 5, 6, 7, 8, 9, 10, 11] [12, 13, 14, 15, 16, 17, 18, 19] [true, true, true, true, true, true, true, true, true, true, true, true] [false, false, false, false, false, false, false, false, false, false, false, false, true, true, true, true, true, true, true, true] rfl ⟨rfl, rfl⟩ (by kernel_rfl) (by kernel_rfl) (fun _ _ d _ _ h => by cases d <;> exact h) ?_
  apply Exists.intro
  refine ⟨?_, ?_⟩
  · intro E
    simp only [sel_t, sel_f, sel_n]
    repeat (go_big_quiet_step ((fail)))
    exact wpQuiet_nil rfl
  simp only [sel_t, sel_f, sel_n, loudly_cons, loudly_nil]
  go_wp2
  refine ⟨⟨(_, _, _), rfl⟩, ?_⟩
  rw [loudly_cons]
  go_wp2
  refine ⟨⟨(_, _, _), rfl⟩, ?_⟩
  rw [loudly_cons]
  go_wp2
  refine ⟨⟨(_, _, _), rfl⟩, ?_⟩
  rw [loudly_cons]
  go_wp2
  refine ⟨⟨(_, _, _), rfl⟩, ?_⟩
  rw [loudly_cons]
  go_wp2
  refine ⟨⟨(_, _, _), rfl⟩, ?_⟩
  rw [loudly_cons]
  go_wp2
  refine ⟨⟨(_, _, _), rfl⟩, ?_⟩
  rw [loudly_cons]
  go_wp2
  refine ⟨⟨(_, _, _), rfl⟩, ?_⟩
  rw [loudly_cons]
  go_wp2
  refine ⟨⟨(_, _, _), rfl⟩, ?_⟩
  rw [loudly_nil]
  go_wp2
  refine bodyPost_ret (v := .agg (rq ({ reqBlank 4 with topic := t, index := i, offset := o, most := m } : Req) none 0)) ?_ rfl ⟨rfl, more_wd _ _ _⟩
  simp [results, Tryz.results30, go_sem]
  try rfl
set_option maxRecDepth 100000 in
set_option maxHeartbeats 3200000 in
theorem rrq_5 (t : Word) (i : Nat) (z : Nat) (w : World) (vS vN : Value) (hs : SRd w vS [t]) (hn : IRd w vN [i, z]) : Calls Tryz.prog 30 #[.int .u8 5, vS, vN] w fun e w' => e = .returned (.agg (rq ({ reqBlank 5 with topic := t, index := i, time := z } : Req) none 0)) ∧ More w w' := by
  obtain ⟨aS, cS, hvS, hcS, hmS, hS⟩ := hs.out
  obtain ⟨bS, oS, rfl, hbS, hS⟩ := hS (by simp)
  have hvS : vS = .slice (some ⟨bS, oS, none⟩) 1 cS := hvS
  have hcS : 1 ≤ cS := hcS
  have s0 := hS 0 _ rfl
  rw [Nat.add_zero] at s0
  subst hvS
  obtain ⟨aN, cN, hvN, hcN, hmN, hN⟩ := hn.out
  obtain ⟨bN, oN, rfl, hbN, hN⟩ := hN (by simp)
  have hvN : vN = .slice (some ⟨bN, oN, none⟩) 2 cN := hvN
  have hcN : 2 ≤ cN := hcN
  have n0 := hN 0 _ rfl
  have n1 := hN 1 _ rfl
  rw [Nat.add_zero] at n0
  subst hvN
  clear hS hs hn hmS hN hmN
  refine calls_wd ?_
  go_enter Tryz.func30, Tryz.ntmps30
  go_wp2
  refine wp_region_mixf (fun (s : Req × Option Addr × Nat) => wd w [#[.cells (rq s.1 s.2.1 s.2.2) 27], #[.cells (rq (reqBlank 0) none 0) 27]] (w.drawn + 1)) ((reqBlank 5, none, 0)) [0, 1, 2, 3, 4, 5, 6, 7, 8] [9, 10, 11, 12, 13, 14] [true, true, true, true, true, true, true, true, true] [false, false, false, false, false, false, false, false, false, true, true, true, true, true, true] rfl ⟨rfl, rfl⟩ (by kernel_rfl) (by kernel_rfl) (fun _ _ d _ _ h => by cases d <;> exact h) ?_
  apply Exists.intro
  refine ⟨?_, ?_⟩
  · intro E
    simp only [sel_t, sel_f, sel_n]
    repeat (go_big_quiet_step ((fail)))
    exact wpQuiet_nil rfl
  simp only [sel_t, sel_f, sel_n, loudly_cons, loudly_nil]
  go_wp2
  refine ⟨⟨(_, _, _), rfl⟩, ?_⟩
  rw [loudly_cons]
  go_wp2
  refine ⟨⟨(_, _, _), rfl⟩, ?_⟩
  rw [loudly_cons]
  go_wp2
  refine ⟨⟨(_, _, _), rfl⟩, ?_⟩
  rw [loudly_cons]
  go_wp2
  refine ⟨⟨(_, _, _), rfl⟩, ?_⟩
  rw [loudly_cons]
  go_wp2
  refine ⟨⟨(_, _, _), rfl⟩, ?_⟩
  rw [loudly_cons]
  go_wp2
  refine ⟨⟨(_, _, _), rfl⟩, ?_⟩
  rw [loudly_nil]
  go_wp2
  refine bodyPost_ret (v := .agg (rq ({ reqBlank 5 with topic := t, index := i, time := z } : Req) none 0)) ?_ rfl ⟨rfl, more_wd _ _ _⟩
  simp [results, Tryz.results30, go_sem]
  try rfl
set_option maxRecDepth 100000 in
set_option maxHeartbeats 3200000 in
theorem rrq_6 (g : Word) (m : Word)  (w : World) (vS vN : Value) (hs : SRd w vS [g, m]) (hn : IRd w vN []) : Calls Tryz.prog 30 #[.int .u8 6, vS, vN] w fun e w' => e = .returned (.agg (rq ({ reqBlank 6 with group := g, member := m } : Req) none 0)) ∧ More w w' := by
  obtain ⟨aS, cS, hvS, hcS, hmS, hS⟩ := hs.out
  obtain ⟨bS, oS, rfl, hbS, hS⟩ := hS (by simp)
  have hvS : vS = .slice (some ⟨bS, oS, none⟩) 2 cS := hvS
  have hcS : 2 ≤ cS := hcS
  have s0 := hS 0 _ rfl
  have s1 := hS 1 _ rfl
  rw [Nat.add_zero] at s0
  subst hvS
  clear hS hs hn hmS
  refine calls_wd ?_
  go_enter Tryz.func30, Tryz.ntmps30
  go_wp2
  refine wp_region_mixf (fun (s : Req × Option Addr × Nat) => wd w [#[.cells (rq s.1 s.2.1 s.2.2) 27], #[.cells (rq (reqBlank 0) none 0) 27]] (w.drawn + 1)) ((reqBlank 6, none, 0)) [0, 1, 2, 3, 4, 5] [6, 7, 8, 9] [true, true, true, true, true, true] [false, false, false, false, false, false, true, true, true, true] rfl ⟨rfl, rfl⟩ (by kernel_rfl) (by kernel_rfl) (fun _ _ d _ _ h => by cases d <;> exact h) ?_
  apply Exists.intro
  refine ⟨?_, ?_⟩
  · intro E
    simp only [sel_t, sel_f, sel_n]
    repeat (go_big_quiet_step ((fail)))
    exact wpQuiet_nil rfl
  simp only [sel_t, sel_f, sel_n, loudly_cons, loudly_nil]
  go_wp2
  refine ⟨⟨(_, _, _), rfl⟩, ?_⟩
  rw [loudly_cons]
  go_wp2
  refine ⟨⟨(_, _, _), rfl⟩, ?_⟩
  rw [loudly_cons]
  go_wp2
  refine ⟨⟨(_, _, _), rfl⟩, ?_⟩
  rw [loudly_cons]
  go_wp2
  refine ⟨⟨(_, _, _), rfl⟩, ?_⟩
  rw [loudly_nil]
  go_wp2
  refine bodyPost_ret (v := .agg (rq ({ reqBlank 6 with group := g, member := m } : Req) none 0)) ?_ rfl ⟨rfl, more_wd _ _ _⟩
  simp [results, Tryz.results30, go_sem]
  try rfl
set_option maxRecDepth 100000 in
set_option maxHeartbeats 3200000 in
theorem rrq_7 (g : Word) (m : Word) (t : Word) (ge : Nat) (w : World) (vS vN : Value) (hs : SRd w vS [g, m, t]) (hn : IRd w vN [ge]) : Calls Tryz.prog 30 #[.int .u8 7, vS, vN] w fun e w' => e = .returned (.agg (rq ({ reqBlank 7 with group := g, member := m, gen := ge, topic := t } : Req) none 0)) ∧ More w w' := by
  obtain ⟨aS, cS, hvS, hcS, hmS, hS⟩ := hs.out
  obtain ⟨bS, oS, rfl, hbS, hS⟩ := hS (by simp)
  have hvS : vS = .slice (some ⟨bS, oS, none⟩) 3 cS := hvS
  have hcS : 3 ≤ cS := hcS
  have s0 := hS 0 _ rfl
  have s1 := hS 1 _ rfl
  have s2 := hS 2 _ rfl
  rw [Nat.add_zero] at s0
  subst hvS
  obtain ⟨aN, cN, hvN, hcN, hmN, hN⟩ := hn.out
  obtain ⟨bN, oN, rfl, hbN, hN⟩ := hN (by simp)
  have hvN : vN = .slice (some ⟨bN, oN, none⟩) 1 cN := hvN
  have hcN : 1 ≤ cN := hcN
  have n0 := hN 0 _ rfl
  rw [Nat.add_zero] at n0
  subst hvN
  clear hS hs hn hmS hN hmN
  refine calls_wd ?_
  go_enter Tryz.func30, Tryz.ntmps30
  go_wp2
  refine wp_region_mixf (fun (s : Req × Option Addr × Nat) => wd w [#[.cells (rq s.1 s.2.1 s.2.2) 27], #[.cells (rq (reqBlank 0) none 0) 27]] (w.drawn + 1)) ((reqBlank 7, none, 0)) [0, 1, 2, 3, 4, 5, 6, 7, 8, 9, 10, 11] [12, 13, 14, 15, 16, 17, 18, 19] [true, true, true, true, true, true, true, true, true, true, true, true] [false, false, false, false, false, false, false, false, false, false, false, false, true, true, true, true, true, true, true, true] rfl ⟨rfl, rfl⟩ (by kernel_rfl) (by kernel_rfl) (fun _ _ d _ _ h => by cases d <;> exact h) ?_
  apply Exists.intro
  refine ⟨?_, ?_⟩
  · intro E
    simp only [sel_t, sel_f, sel_n]
    repeat (go_big_quiet_step ((fail)))
    exact wpQuiet_nil rfl
  simp only [sel_t, sel_f, sel_n, loudly_cons, loudly_nil]
  go_wp2
  refine ⟨⟨(_, _, _), rfl⟩, ?_⟩
  rw [loudly_cons]
  go_wp2
  refine ⟨⟨(_, _, _), rfl⟩, ?_⟩
  rw [loudly_cons]
  go_wp2
  refine ⟨⟨(_, _, _), rfl⟩, ?_⟩
  rw [loudly_cons]
  go_wp2
  refine ⟨⟨(_, _, _), rfl⟩, ?_⟩
  rw [loudly_cons]
  go_wp2
  refine ⟨⟨(_, _, _), rfl⟩, ?_⟩
  rw [loudly_cons]
  go_wp2
  refine ⟨⟨(_, _, _), rfl⟩, ?_⟩
  rw [loudly_cons]
  go_wp2
  refine ⟨⟨(_, _, _), rfl⟩, ?_⟩
  rw [loudly_cons]
  go_wp2
  refine ⟨⟨(_, _, _), rfl⟩, ?_⟩
  rw [loudly_nil]
  go_wp2
  refine bodyPost_ret (v := .agg (rq ({ reqBlank 7 with group := g, member := m, gen := ge, topic := t } : Req) none 0)) ?_ rfl ⟨rfl, more_wd _ _ _⟩
  simp [results, Tryz.results30, go_sem]
  try rfl
set_option maxRecDepth 100000 in
set_option maxHeartbeats 3200000 in
theorem rrq_8 (g : Word) (m : Word) (ge : Nat) (w : World) (vS vN : Value) (hs : SRd w vS [g, m]) (hn : IRd w vN [ge]) : Calls Tryz.prog 30 #[.int .u8 8, vS, vN] w fun e w' => e = .returned (.agg (rq ({ reqBlank 8 with group := g, member := m, gen := ge } : Req) none 0)) ∧ More w w' := by
  obtain ⟨aS, cS, hvS, hcS, hmS, hS⟩ := hs.out
  obtain ⟨bS, oS, rfl, hbS, hS⟩ := hS (by simp)
  have hvS : vS = .slice (some ⟨bS, oS, none⟩) 2 cS := hvS
  have hcS : 2 ≤ cS := hcS
  have s0 := hS 0 _ rfl
  have s1 := hS 1 _ rfl
  rw [Nat.add_zero] at s0
  subst hvS
  obtain ⟨aN, cN, hvN, hcN, hmN, hN⟩ := hn.out
  obtain ⟨bN, oN, rfl, hbN, hN⟩ := hN (by simp)
  have hvN : vN = .slice (some ⟨bN, oN, none⟩) 1 cN := hvN
  have hcN : 1 ≤ cN := hcN
  have n0 := hN 0 _ rfl
  rw [Nat.add_zero] at n0
  subst hvN
  clear hS hs hn hmS hN hmN
  refine calls_wd ?_
  go_enter Tryz.func30, Tryz.ntmps30
  go_wp2
  refine wp_region_mixf (fun (s : Req × Option Addr × Nat) => wd w [#[.cells (rq s.1 s.2.1 s.2.2) 27], #[.cells (rq (reqBlank 0) none 0) 27]] (w.drawn + 1)) ((reqBlank 8, none, 0)) [0, 1, 2, 3, 4, 5, 6, 7, 8] [9, 10, 11, 12, 13, 14] [true, true, true, true, true, true, true, true, true] [false, false, false, false, false, false, false, false, false, true, true, true, true, true, true] rfl ⟨rfl, rfl⟩ (by kernel_rfl) (by kernel_rfl) (fun _ _ d _ _ h => by cases d <;> exact h) ?_
  apply Exists.intro
  refine ⟨?_, ?_⟩
  · intro E
    simp only [sel_t, sel_f, sel_n]
    repeat (go_big_quiet_step ((fail)))
    exact wpQuiet_nil rfl
  simp only [sel_t, sel_f, sel_n, loudly_cons, loudly_nil]
  go_wp2
  refine ⟨⟨(_, _, _), rfl⟩, ?_⟩
  rw [loudly_cons]
  go_wp2
  refine ⟨⟨(_, _, _), rfl⟩, ?_⟩
  rw [loudly_cons]
  go_wp2
  refine ⟨⟨(_, _, _), rfl⟩, ?_⟩
  rw [loudly_cons]
  go_wp2
  refine ⟨⟨(_, _, _), rfl⟩, ?_⟩
  rw [loudly_cons]
  go_wp2
  refine ⟨⟨(_, _, _), rfl⟩, ?_⟩
  rw [loudly_cons]
  go_wp2
  refine ⟨⟨(_, _, _), rfl⟩, ?_⟩
  rw [loudly_nil]
  go_wp2
  refine bodyPost_ret (v := .agg (rq ({ reqBlank 8 with group := g, member := m, gen := ge } : Req) none 0)) ?_ rfl ⟨rfl, more_wd _ _ _⟩
  simp [results, Tryz.results30, go_sem]
  try rfl
set_option maxRecDepth 100000 in
set_option maxHeartbeats 3200000 in
theorem rrq_9 (g : Word) (m : Word)  (w : World) (vS vN : Value) (hs : SRd w vS [g, m]) (hn : IRd w vN []) : Calls Tryz.prog 30 #[.int .u8 9, vS, vN] w fun e w' => e = .returned (.agg (rq ({ reqBlank 9 with group := g, member := m } : Req) none 0)) ∧ More w w' := by
  obtain ⟨aS, cS, hvS, hcS, hmS, hS⟩ := hs.out
  obtain ⟨bS, oS, rfl, hbS, hS⟩ := hS (by simp)
  have hvS : vS = .slice (some ⟨bS, oS, none⟩) 2 cS := hvS
  have hcS : 2 ≤ cS := hcS
  have s0 := hS 0 _ rfl
  have s1 := hS 1 _ rfl
  rw [Nat.add_zero] at s0
  subst hvS
  clear hS hs hn hmS
  refine calls_wd ?_
  go_enter Tryz.func30, Tryz.ntmps30
  go_wp2
  refine wp_region_mixf (fun (s : Req × Option Addr × Nat) => wd w [#[.cells (rq s.1 s.2.1 s.2.2) 27], #[.cells (rq (reqBlank 0) none 0) 27]] (w.drawn + 1)) ((reqBlank 9, none, 0)) [0, 1, 2, 3, 4, 5] [6, 7, 8, 9] [true, true, true, true, true, true] [false, false, false, false, false, false, true, true, true, true] rfl ⟨rfl, rfl⟩ (by kernel_rfl) (by kernel_rfl) (fun _ _ d _ _ h => by cases d <;> exact h) ?_
  apply Exists.intro
  refine ⟨?_, ?_⟩
  · intro E
    simp only [sel_t, sel_f, sel_n]
    repeat (go_big_quiet_step ((fail)))
    exact wpQuiet_nil rfl
  simp only [sel_t, sel_f, sel_n, loudly_cons, loudly_nil]
  go_wp2
  refine ⟨⟨(_, _, _), rfl⟩, ?_⟩
  rw [loudly_cons]
  go_wp2
  refine ⟨⟨(_, _, _), rfl⟩, ?_⟩
  rw [loudly_cons]
  go_wp2
  refine ⟨⟨(_, _, _), rfl⟩, ?_⟩
  rw [loudly_cons]
  go_wp2
  refine ⟨⟨(_, _, _), rfl⟩, ?_⟩
  rw [loudly_nil]
  go_wp2
  refine bodyPost_ret (v := .agg (rq ({ reqBlank 9 with group := g, member := m } : Req) none 0)) ?_ rfl ⟨rfl, more_wd _ _ _⟩
  simp [results, Tryz.results30, go_sem]
  try rfl
set_option maxRecDepth 100000 in
set_option maxHeartbeats 3200000 in
theorem rrq_10 (g : Word) (m : Word) (t : Word) (ge : Nat) (i : Nat) (o : Nat) (w : World) (vS vN : Value) (hs : SRd w vS [g, m, t]) (hn : IRd w vN [ge, i, o]) : Calls Tryz.prog 30 #[.int .u8 10, vS, vN] w fun e w' => e = .returned (.agg (rq ({ reqBlank 10 with group := g, member := m, gen := ge, topic := t, index := i, offset := o } : Req) none 0)) ∧ More w w' := by
  obtain ⟨aS, cS, hvS, hcS, hmS, hS⟩ := hs.out
  obtain ⟨bS, oS, rfl, hbS, hS⟩ := hS (by simp)
  have hvS : vS = .slice (some ⟨bS, oS, none⟩) 3 cS := hvS
  have hcS : 3 ≤ cS := hcS
  have s0 := hS 0 _ rfl
  have s1 := hS 1 _ rfl
  have s2 := hS 2 _ rfl
  rw [Nat.add_zero] at s0
  subst hvS
  obtain ⟨aN, cN, hvN, hcN, hmN, hN⟩ := hn.out
  obtain ⟨bN, oN, rfl, hbN, hN⟩ := hN (by simp)
  have hvN : vN = .slice (some ⟨bN, oN, none⟩) 3 cN := hvN
  have hcN : 3 ≤ cN := hcN
  have n0 := hN 0 _ rfl
  have n1 := hN 1 _ rfl
  have n2 := hN 2 _ rfl
  rw [Nat.add_zero] at n0
  subst hvN
  clear hS hs hn hmS hN hmN
  refine calls_wd ?_
  go_enter Tryz.func30, Tryz.ntmps30
  go_wp2
  refine wp_region_mixf (fun (s : Req × Option Addr × Nat) => wd w [#[.cells (rq s.1 s.2.1 s.2.2) 27], #[.cells (rq (reqBlank 0) none 0) 27]] (w.drawn + 1)) ((reqBlank 10, none, 0)) [0, 1, 2, 3, 4, 5, 6, 7, 8, 9, 10, 11, 12, 13, 14, 15, 16, 17] [18, 19, 20, 21, 22, 23, 24, 25, 26, 27, 28, 29] [true, true, true, true, true, true, true, true, true, true, true, true, true, true, true, true, true, true] [false, false, false, false, false, false, false, false, false, false, false, false, false, false, false, false, false, false, true, true, true, true, true, true, true, true, true, true, true, true] rfl ⟨rfl, rfl⟩ (by kernel_rfl) (by kernel_rfl) (fun _ _ d _ _ h => by cases d <;> exact h) ?_
  apply Exists.intro
  refine ⟨?_, ?_⟩
  · intro E
    simp only [sel_t, sel_f, sel_n]
    repeat (go_big_quiet_step ((fail)))
    exact wpQuiet_nil rfl
  simp only [sel_t, sel_f, sel_n, loudly_cons, loudly_nil]
  go_wp2
  refine ⟨⟨(_, _, _), rfl⟩, ?_⟩
  rw [loudly_cons]
  go_wp2
  refine ⟨⟨(_, _, _), rfl⟩, ?_⟩
  rw [loudly_cons]
  go_wp2
  refine ⟨⟨(_, _, _), rfl⟩, ?_⟩
  rw [loudly_cons]
  go_wp2
  refine ⟨⟨(_, _, _), rfl⟩, ?_⟩
  rw [loudly_cons]
  go_wp2
  refine ⟨⟨(_, _, _), rfl⟩, ?_⟩
  rw [loudly_cons]
  go_wp2
  refine ⟨⟨(_, _, _), rfl⟩, ?_⟩
  rw [loudly_cons]
  go_wp2
  refine ⟨⟨(_, _, _), rfl⟩, ?_⟩
  rw [loudly_cons]
  go_wp2
  refine ⟨⟨(_, _, _), rfl⟩, ?_⟩
  rw [loudly_cons]
  go_wp2
  refine ⟨⟨(_, _, _), rfl⟩, ?_⟩
  rw [loudly_cons]
  go_wp2
  refine ⟨⟨(_, _, _), rfl⟩, ?_⟩
  rw [loudly_cons]
  go_wp2
  refine ⟨⟨(_, _, _), rfl⟩, ?_⟩
  rw [loudly_cons]
  go_wp2
  refine ⟨⟨(_, _, _), rfl⟩, ?_⟩
  rw [loudly_nil]
  go_wp2
  refine bodyPost_ret (v := .agg (rq ({ reqBlank 10 with group := g, member := m, gen := ge, topic := t, index := i, offset := o } : Req) none 0)) ?_ rfl ⟨rfl, more_wd _ _ _⟩
  simp [results, Tryz.results30, go_sem]
  try rfl
set_option maxRecDepth 100000 in
set_option maxHeartbeats 3200000 in
theorem rrq_11 (g : Word) (t : Word) (i : Nat) (w : World) (vS vN : Value) (hs : SRd w vS [g, t]) (hn : IRd w vN [i]) : Calls Tryz.prog 30 #[.int .u8 11, vS, vN] w fun e w' => e = .returned (.agg (rq ({ reqBlank 11 with group := g, topic := t, index := i } : Req) none 0)) ∧ More w w' := by
  obtain ⟨aS, cS, hvS, hcS, hmS, hS⟩ := hs.out
  obtain ⟨bS, oS, rfl, hbS, hS⟩ := hS (by simp)
  have hvS : vS = .slice (some ⟨bS, oS, none⟩) 2 cS := hvS
  have hcS : 2 ≤ cS := hcS
  have s0 := hS 0 _ rfl
  have s1 := hS 1 _ rfl
  rw [Nat.add_zero] at s0
  subst hvS
  obtain ⟨aN, cN, hvN, hcN, hmN, hN⟩ := hn.out
  obtain ⟨bN, oN, rfl, hbN, hN⟩ := hN (by simp)
  have hvN : vN = .slice (some ⟨bN, oN, none⟩) 1 cN := hvN
  have hcN : 1 ≤ cN := hcN
  have n0 := hN 0 _ rfl
  rw [Nat.add_zero] at n0
  subst hvN
  clear hS hs hn hmS hN hmN
  refine calls_wd ?_
  go_enter Tryz.func30, Tryz.ntmps30
  go_wp2
  refine wp_region_mixf (fun (s : Req × Option Addr × Nat) => wd w [#[.cells (rq s.1 s.2.1 s.2.2) 27], #[.cells (rq (reqBlank 0) none 0) 27]] (w.drawn + 1)) ((reqBlank 11, none, 0)) [0, 1, 2, 3, 4, 5, 6, 7, 8] [9, 10, 11, 12, 13, 14] [true, true, true, true, true, true, true, true, true] [false, false, false, false, false, false, false, false, false, true, true, true, true, true, true] rfl ⟨rfl, rfl⟩ (by kernel_rfl) (by kernel_rfl) (fun _ _ d _ _ h => by cases d <;> exact h) ?_
  apply Exists.intro
  refine ⟨?_, ?_⟩
  · intro E
    simp only [sel_t, sel_f, sel_n]
    repeat (go_big_quiet_step ((fail)))
    exact wpQuiet_nil rfl
  simp only [sel_t, sel_f, sel_n, loudly_cons, loudly_nil]
  go_wp2
  refine ⟨⟨(_, _, _), rfl⟩, ?_⟩
  rw [loudly_cons]
  go_wp2
  refine ⟨⟨(_, _, _), rfl⟩, ?_⟩
  rw [loudly_cons]
  go_wp2
  refine ⟨⟨(_, _, _), rfl⟩, ?_⟩
  rw [loudly_cons]
  go_wp2
  refine ⟨⟨(_, _, _), rfl⟩, ?_⟩
  rw [loudly_cons]
  go_wp2
  refine ⟨⟨(_, _, _), rfl⟩, ?_⟩
  rw [loudly_cons]
  go_wp2
  refine ⟨⟨(_, _, _), rfl⟩, ?_⟩
  rw [loudly_nil]
  go_wp2
  refine bodyPost_ret (v := .agg (rq ({ reqBlank 11 with group := g, topic := t, index := i } : Req) none 0)) ?_ rfl ⟨rfl, more_wd _ _ _⟩
  simp [results, Tryz.results30, go_sem]
  try rfl
end Go.Proofs.YtifoekadjnlhcaaGreatDoor
