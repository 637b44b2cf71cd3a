/- dump: Quote. -/
import Derived.Test.YtejokhgabcldhaaDoorNB
import Derived.Test.YtejokhgabcldhaaDoorMC
import Derived.Test.YtejokhgabcldhaaDoorShelf
namespace Go.Proofs.YtejokhgabcldhaaDoor
open Go.ChangeShapes Go.WideShapes Go.ChangeAt Go.RowKit
set_option linter.unusedVariables false
set_option linter.unusedSimpArgs false

theorem owns_lower {W : World} {B B' : Nat} {E : TypeId} {size : Nat} {v : Value} {n : Nat} {xs : List Value} (hB : B ≤ B') (h : W.ownsRow B' E size v n xs) : W.ownsRow B E size v n xs := by
  obtain ⟨h1, h2⟩ := h
  refine ⟨h1, ?_⟩
  rcases h2 with h2 | ⟨g, cap, cur, hv, hg, r⟩
  · exact .inl h2
  · exact .inr ⟨g, cap, cur, hv, by omega, r⟩
section
variable (w : World) (L : List (Array Obj)) (n : Nat) (m d : Array Obj) (q : Option Addr) (v : Value) (l : List UInt8)
theorem bld_heap : (wd w (m :: d :: bld q v :: L) n).heap[sz w.heap.size (shape L)]? = some (.cells #[.pointer q, v] 57) := by
  rw [wd_past w _ n _ _ m rfl (by simp [shape_cons, inn_cons]), wd_past w _ n _ _ d rfl (by simp [shape_cons, inn_cons])]
  exact wd_at w L n _ _ _ rfl rfl
theorem bld_string (hq : q = none ∨ q = some (self w L)) (hr : BRow w (d :: bld q v :: L) m v l) :
    Calls Tryd.prog 27 #[.pointer (some (self w L))] (wd w (m :: d :: bld q v :: L) n) fun x w' => x = .returned (.string (str l)) ∧ More w w' := by
  have hown := owns_lower (sz_ge w.heap.size (shape (d :: bld q v :: L))) (owns_of_row (k := n) hr)
  have hat : Lib.BuilderAt 57 5 w.heap.size (sz w.heap.size (shape L)) (.pointer q) (Lib.byteCells l) (wd w (m :: d :: bld q v :: L) n) := by
    refine ⟨sz_ge _ _, v, bld_heap w L n m d q v, by rw [bc_len]; exact hown, ?_⟩
    rcases hr.2 with ⟨hv, _⟩ | ⟨j, cap, cur, hv, _⟩
    · rw [hv]; simp [Value.ownBlock]
    · rw [hv]
      simp only [Value.ownBlock, ne_eq, Option.some.injEq, at', shape_cons, sz]
      show ¬ (sz w.heap.size (shape L) + 1 + d.size + j = sz w.heap.size (shape L))
      omega
  have hb : Lib.IsBuilder 57 5 w.heap.size (sz w.heap.size (shape L)) (Lib.byteCells l) (wd w (m :: d :: bld q v :: L) n) := by
    rcases hq with rfl | rfl
    · exact .inl hat
    · exact .inr hat
  refine (Tryd.Builder_String_any w.heap.size (sz w.heap.size (shape L)) l (wd w (m :: d :: bld q v :: L) n) hb (by rw [wd_size]; exact sz_ge _ _)).mono ?_
  rintro x w' ⟨rfl, hbel⟩
  exact ⟨rfl, more_of_below ((more_wd w _ _).below.trans hbel)⟩
end
/-- '[]byte(x)', x a text: a block of its own. -/
theorem at_conv_own {ops : Array Oper} {rest : List Oper} {o : Oper} {a : Act} {Q : Exit → Act → World → Prop} {w : World} {L : List (Array Obj)} {n : Nat} {l : List UInt8} (hgd : o.guard = none) (x : Operand)
    (ho : o.op = .convert 9 49 x) (hx : a.eval x = .string (str l)) (hl : l.length ≤ 1099511627776)
    (h : ∀ (C : Array Value) (fr : Nat × Nat) (cap : Nat), (∀ i, i < l.length → C[i]? = (Lib.byteCells l)[i]?) → wpList Tryd.prog ops Q rest (a.put o.dst (.slice (some ⟨sz w.heap.size (shape L), 0, none⟩) l.length cap)) (wd w (#[.cells C 5 fr] :: L) (n + 1))) :
    wpList Tryd.prog ops Q (o :: rest) a (wd w L n) := by
  have hs : (str l).size = l.length := str_size l
  have hw : Lib.bytesWorld (wd w L n) 5 (str l) = wd w (#[.cells (Lib.bytesCells (wd w L n) 5 (str l)) 5 ((Lib.bytesCells (wd w L n) 5 (str l)).size, (Lib.bytesCells (wd w L n) 5 (str l)).size + 1)] :: L) (n + 1) := by
    refine world_ext ?_ rfl rfl rfl rfl
    apply Array.ext_getElem?
    intro j
    show (Lib.bytesWorld (wd w L n) 5 (str l)).heap[j]? = ((wd w L n).heap ++ #[_])[j]?
    rcases Nat.lt_trichotomy j (wd w L n).heap.size with hj | hj | hj
    · rw [Lib.bytesWorld_at_old _ _ _ j hj, Array.getElem?_append_left hj]
    · subst hj
      rw [Lib.bytesWorld_at_new, Array.getElem?_append_right (Nat.le_refl _)]
      simp
    · rw [Array.getElem?_eq_none (by rw [Lib.bytesWorld_size]; omega), Array.getElem?_eq_none (by simp; omega)]
  have hrun := Lib.run_convert_string_bytes (wd w L n) 9 49 5 (str l) Tryd.underlying9 Tryd.underlying49 Tryd.underlying5
  rw [hw, hs, wd_size] at hrun
  have h2 := h (Lib.bytesCells (wd w L n) 5 (str l)) ((Lib.bytesCells (wd w L n) 5 (str l)).size, (Lib.bytesCells (wd w L n) 5 (str l)).size + 1) (grownCap (wd w L n) l.length 0 5) (fun i hi => by
    have := Lib.bytesWorld_cell (wd w L n) 5 (str l) i (by rw [hs]; exact hi)
    simp only [World.cell?, Lib.bytesWorld_at_new] at this
    rw [bc_get, List.getElem?_eq_getElem hi]
    rw [str_toList'] at this
    simp [List.getD, List.getElem?_eq_getElem hi] at this
    simpa using this)
  refine wpList_plain hgd fun K hK' => ?_
  unfold Oper.wp
  simp [execOp, ho, hx, hrun, Result.andThen]
  exact hK' _ _ h2
set_option maxRecDepth 100000 in
set_option maxHeartbeats 400000 in
theorem plain_any (c : UInt8) (w : World) : Calls Tryd.prog 24 #[.int .u8 c.toNat] w fun x w' => x = .returned (.bool (plainB c)) ∧ w = w' := by
  have hc := c.toNat_lt
  unfold plainB
  by_cases h1 : (32 : Int) < c.toNat
  · by_cases h2 : (c.toNat : Int) < 127
    · by_cases h3 : c.toNat = 37
      · have h3' : ((c.toNat : Int) != 37) = false := by simp [h3]
        go_enter Tryd.func24, Tryd.ntmps24
        go_wp2
        go_ret
        exact ⟨by rw [decide_eq_true (by omega : 32 < c.toNat), decide_eq_true (by omega : c.toNat < 127), decide_eq_true h3]; rfl, rfl⟩
      · have h3' : ((c.toNat : Int) != 37) = true := by rw [bne_iff_ne]; omega
        go_enter Tryd.func24, Tryd.ntmps24
        go_wp2
        go_ret
        exact ⟨by rw [decide_eq_true (by omega : 32 < c.toNat), decide_eq_true (by omega : c.toNat < 127), decide_eq_false h3]; rfl, rfl⟩
    · go_enter Tryd.func24, Tryd.ntmps24
      go_wp2
      go_ret
      exact ⟨by rw [decide_eq_true (by omega : 32 < c.toNat), decide_eq_false (by omega : ¬ c.toNat < 127)]; rfl, rfl⟩
  · go_enter Tryd.func24, Tryd.ntmps24
    go_wp2
    go_ret
    exact ⟨by rw [decide_eq_false (by omega : ¬ 32 < c.toNat)]; rfl, rfl⟩
/-- Three bytes, laid just now, above a piece. -/
theorem lit_rb (w : World) (m : Array Obj) (D : List (Array Obj)) (n : Nat) (a b c : UInt8) : RB (wd w ((m ++ #[.cells #[.int .u8 a.toNat, .int .u8 b.toNat, .int .u8 c.toNat] 5]) :: D) n) (.slice (some ⟨sz w.heap.size (m.size :: shape D), 0, none⟩) 3 3) [a, b, c] := by
  rw [← wd_merge]
  refine RB.of_block (wd_at w (m :: D) n w.heap.size (m.size :: shape D) _ rfl (by rw [shape_cons])) [a, b, c] 3 (by simp) (by decide) (fun i hi => ?_)
  match i, hi with
  | 0, _ => rfl
  | 1, _ => rfl
  | 2, _ => rfl
theorem hex_index (W : World) : ∀ (n : Nat), n < 16 → (Instr.index 9 (.string { data := #[48, 49, 50, 51, 52, 53, 54, 55, 56, 57, 97, 98, 99, 100, 101, 102] }) (.int .u8 (n : Nat))).run Tryd.prog W = .ok (.int .u8 (hexB n).toNat) W
  | 0, _ => by kernel_rfl
  | 1, _ => by kernel_rfl
  | 2, _ => by kernel_rfl
  | 3, _ => by kernel_rfl
  | 4, _ => by kernel_rfl
  | 5, _ => by kernel_rfl
  | 6, _ => by kernel_rfl
  | 7, _ => by kernel_rfl
  | 8, _ => by kernel_rfl
  | 9, _ => by kernel_rfl
  | 10, _ => by kernel_rfl
  | 11, _ => by kernel_rfl
  | 12, _ => by kernel_rfl
  | 13, _ => by kernel_rfl
  | 14, _ => by kernel_rfl
  | 15, _ => by kernel_rfl
  | n + 16, h => by omega
theorem hex_hi (c : UInt8) (W : World) : (Instr.index 9 (.string { data := #[48, 49, 50, 51, 52, 53, 54, 55, 56, 57, 97, 98, 99, 100, 101, 102] }) (.int .u8 ((c.toNat : Int) / 16))).run Tryd.prog W = .ok (.int .u8 (hexB (c.toNat / 16)).toNat) W := by
  have := c.toNat_lt
  have h := hex_index W (c.toNat / 16) (by omega)
  rw [show ((c.toNat / 16 : Nat) : Int) = (c.toNat : Int) / 16 by omega] at h
  exact h
theorem hex_lo (c : UInt8) (W : World) : (Instr.index 9 (.string { data := #[48, 49, 50, 51, 52, 53, 54, 55, 56, 57, 97, 98, 99, 100, 101, 102] }) (.int .u8 ((c.toNat : Int) % 16))).run Tryd.prog W = .ok (.int .u8 (hexB (c.toNat % 16)).toNat) W := by
  have h := hex_index W (c.toNat % 16) (by omega)
  rw [show ((c.toNat % 16 : Nat) : Int) = (c.toNat : Int) % 16 by omega] at h
  exact h
set_option maxRecDepth 100000 in
set_option maxHeartbeats 3200000 in
theorem quote_any (l : List UInt8) (w : World) (hl : l.length ≤ 1099511627) : Calls Tryd.prog 10 #[.string (str l)] w fun x w' => x = .returned (.string (str (quote l))) ∧ More w w' := by
  by_cases hne : l = []
  · subst hne
    have hq0 : (str []).toList.isEmpty = true := by rw [str_toList]; rfl
    refine calls_wd ?_
    go_enter Tryd.func10, Tryd.ntmps10
    go_wp2
    go_ret
    exact ⟨rfl, more_wd _ _ _⟩
  have hq0 : (str l).toList.isEmpty = false := by rw [str_toList]; simp [hne]
  have hqe := Lib.hid (show quote l = l.flatMap quoteC by unfold quote; rw [if_neg hne])
  have hsz := str_size l
  refine calls_wd ?_
  go_enter Tryd.func10, Tryd.ntmps10
  go_wp2_with (first | (show wpList _ _ _ (⟨_, .convert _ _ _, _, _, _, _⟩ :: _) _ _; refine at_conv_own rfl _ rfl rfl (by omega) ?_; intro C fr cap hC; have HC := Lib.hid hC; clear hC))
  go_loopw [11] (fun i wr => ∃ (k : Nat) (m : Ext) (q : Option Addr) (v : Value), k ≤ l.length ∧ i = .int .i64 k ∧ wr = wd w [m.e, #[.cells C 5 fr], bld q v] m.n ∧ (q = none ∨ q = some (self w [])) ∧ BRow w [#[.cells C 5 fr], bld q v] m.e v ((l.take k).flatMap quoteC)) (fun i _ => l.length - (intOf i).toNat)
  case atStart => exact ⟨0, ⟨#[], _⟩, none, .slice none 0 0, Nat.zero_le _, rfl, by rw [wd_empty], .inl rfl, rowIn_nil _ _ _ _ _⟩
  case round =>
    obtain ⟨k, m, q, v, hk, rfl, rfl, hq, hr⟩ := hrel
    have hlen : ((l.take k).flatMap quoteC).length ≤ 549755813888 := by
      have h1 := flat_q_len (l.take k)
      rw [List.length_take] at h1; omega
    obtain ⟨G, hG⟩ : ∃ G, (l.take k).flatMap quoteC = G := ⟨_, rfl⟩
    rw [hG] at hr hlen
    have HR := Lib.hid hr
    have HQ := Lib.hid hq
    obtain ⟨av, cv, rfl⟩ := rowIn_slice hr
    clear hr hq
    by_cases hlt : k < l.length
    · obtain ⟨c, hc⟩ : ∃ c, l[k]? = some c := ⟨_, List.getElem?_eq_getElem hlt⟩
      have hck : C[k]? = some (.int .u8 c.toNat) := by rw [HC.out k hlt, bc_get, hc]; rfl
      have hsnoc : (l.take (k + 1)).flatMap quoteC = G ++ quoteC c := by rw [take_get l k c hc, List.flatMap_append, hG]; simp
      have HS := Lib.hid hsnoc
      clear hc hsnoc hG
      by_cases hp : plainB c = true
      · go_wp2_with (first
          | (go_at_call 24; ((with_reducible refine (hp ▸ plain_any c _).mono ?_); rintro e w1 ⟨rfl, rfl⟩))
          | (go_at_call 25; refine (bld_byte w [] _ m.e _ q _ _ HQ.out c HR.out hlen).mono ?_; rintro x w2 ⟨rfl, hb⟩; obtain ⟨v2, m2, rfl, hr2⟩ := hb.out; have HR2 := Lib.hid hr2; clear hr2 hb))
        go_roundw
        case rel => exact ⟨k + 1, m2, some (self w []), v2, by omega, by go_num, rfl, .inr rfl, by rw [HS.out, show quoteC c = [c] by unfold quoteC; rw [if_pos hp]]; exact brow_bld HR2.out⟩
        case measure => simp [intOf]; omega
      · have hp' : plainB c = false := by simpa using hp
        clear hp
        have hcl := c.toNat_lt
        go_wp2_with (first | (go_at_call 24; ((with_reducible refine (hp' ▸ plain_any c _).mono ?_); rintro e w1 ⟨rfl, rfl⟩)))
        have hx1 := hex_hi c
        have hx2 := hex_lo c
        refine wp_region_mixf (fun (s : Ext × Option Addr × Value) => wd w [s.1.e, #[.cells C 5 fr], bld s.2.1 s.2.2] s.1.n) ((⟨m.e, m.n + 1⟩, q, .slice av G.length cv)) [0, 1, 2, 3, 4, 5] [6, 7] [true, true, true, true, true, true] [false, false, false, false, false, false, true, true] rfl ⟨rfl, rfl⟩ (by kernel_rfl) (by kernel_rfl) (fun _ _ d _ _ h => by cases d <;> exact h) ?_
        apply Exists.intro
        refine ⟨?_, ?_⟩
        · intro E
          simp only [sel_t, sel_f, sel_n]
          repeat (go_big_quiet_step ((fail)))
          exact wpQuiet_nil rfl
        simp only [sel_t, sel_f, sel_n, loudly_cons, loudly_nil]
        go_wp2
        refine ⟨⟨(⟨_, _⟩, _, _), by rw [wd_merge]⟩, ?_⟩
        rw [loudly_cons]
        go_wp2_with (first
          | (go_at_call 26; go_loud (rw [wd_merge]; refine (bld_write w [] _ _ _ q _ _ HQ.out _ [37, hexB (c.toNat / 16), hexB (c.toNat % 16)] _ _ rfl (rowIn_more HR.out _) (fun q2 v2 => lit_rb _ _ _ _ 37 (hexB (c.toNat / 16)) (hexB (c.toNat % 16))) hlen (by show 3 ≤ _; omega)).mono ?_; rintro x w2 ⟨rfl, hb⟩; obtain ⟨v2, m2, rfl, hr2⟩ := hb.out; have HR2 := Lib.hid hr2; clear hr2 hb)))
        refine ⟨⟨(m2, _, _), rfl⟩, ?_⟩
        rw [loudly_nil]
        go_wp2
        go_roundw
        case rel => exact ⟨k + 1, m2, some (self w []), v2, by omega, by go_num, rfl, .inr rfl, by rw [HS.out, show quoteC c = [37, hexB (c.toNat / 16), hexB (c.toNat % 16)] by unfold quoteC; rw [if_neg (by simp [hp'])]]; exact brow_bld HR2.out⟩
        case measure => simp [intOf]; omega
    · have hke : k = l.length := by omega
      have hG2 : G = quote l := by rw [hqe.out, ← hG, hke, List.take_length]
      subst hG2
      clear hG
      go_wp2_with (first
        | (go_at_call 27; refine (bld_string w [] _ m.e _ q _ _ HQ.out HR.out).mono ?_; rintro x w2 ⟨rfl, x9, n9, rfl⟩))
      go_ret
      exact ⟨rfl, ⟨_, _, rfl⟩⟩
end Go.Proofs.YtejokhgabcldhaaDoor
