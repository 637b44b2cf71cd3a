/- The statement DumpWrong, proved: of a text of which one byte is changed, or that is cut, the lines ahead of the one that is told are lines of the text as it was; the one told is there, or just behind the last; and what is not told wrong has that text. No condition but the card's: the listed tables are laid as the program's text lays them. -/
import Derived.Test.YtejokhgabcldhaaDoorOD
import Derived.Test.YtejokhgabcldhaaDoorND
import Derived.Test.YtejokhgabcldhaaDoorTie
import Derived.Test.YtejokhgabcldhaaDoorCards
import Derived.LaidMore
import Derived.Lay
import Derived.SevenTiedAt
import Derived.Stop.Joined
namespace Go.Proofs.YtejokhgabcldhaaDoor
open Go.ChangeShapes Go.WideShapes Go.ChangeAt Go.RowKit
set_option linter.unusedVariables false
set_option linter.unusedSimpArgs false

/-- '[]byte(x)', x a text: a block of its own, that can be written. -/
theorem at_conv_set {ops : Array Oper} {rest : List Oper} {o : Oper} {a : Act} {Q : Exit → Act → World → Prop} {w : World} {L : List (Array Obj)} {n : Nat} {l : List UInt8} (hgd : o.guard = none) (x : Operand)
    (ho : o.op = .convert 9 49 x) (hx : a.eval x = .string (str l)) (hl : l.length ≤ 1099511627776)
    (h : ∀ (C : Array Value) (cap : Nat), (∀ i, i < l.length → C[i]? = (Lib.byteCells l)[i]?) → l.length ≤ cap → cap ≤ maxLen → wpList Tryd.prog ops Q rest (a.put o.dst (.slice (some ⟨sz w.heap.size (shape L), 0, none⟩) l.length cap)) (wd w (#[.cells C 5 (C.size, C.size + 1)] :: L) (n + 1))) :
    wpList Tryd.prog ops Q (o :: rest) a (wd w L n) := by
  have hs : (str l).size = l.length := str_size l
  have hw : Lib.bytesWorld (wd w L n) 5 (str l) = wd w (#[.cells (Lib.bytesCells (wd w L n) 5 (str l)) 5 ((Lib.bytesCells (wd w L n) 5 (str l)).size, (Lib.bytesCells (wd w L n) 5 (str l)).size + 1)] :: L) (n + 1) := by
    refine world_ext ?_ rfl rfl rfl rfl
    apply Array.ext_getElem?
    intro j
    show (Lib.bytesWorld (wd w L n) 5 (str l)).heap[j]? = ((wd w L n).heap ++ #[_])[j]?
    rcases Nat.lt_trichotomy j (wd w L n).heap.size with hj | hj | hj
    · rw [Lib.bytesWorld_at_old _ _ _ j hj, Array.getElem?_append_left hj]
    · subst hj
      rw [Lib.bytesWorld_at_new, Array.getElem?_append_right (Nat.le_refl _)]
      simp
    · rw [Array.getElem?_eq_none (by rw [Lib.bytesWorld_size]; omega), Array.getElem?_eq_none (by simp; omega)]
  have hrun := Lib.run_convert_string_bytes (wd w L n) 9 49 5 (str l) Tryd.underlying9 Tryd.underlying49 Tryd.underlying5
  rw [hw, hs, wd_size] at hrun
  have g1 := grownCap_ge (wd w L n) (str l).size 0 5
  have g2 := grownCap_le_maxLen (wd w L n) (str l).size 0 5 (by rw [hs]; unfold maxLen; omega)
  rw [hs] at g1 g2
  have h2 := h (Lib.bytesCells (wd w L n) 5 (str l)) (grownCap (wd w L n) l.length 0 5) (fun i hi => by
    have := Lib.bytesWorld_cell (wd w L n) 5 (str l) i (by rw [hs]; exact hi)
    simp only [World.cell?, Lib.bytesWorld_at_new] at this
    rw [bc_get, List.getElem?_eq_getElem hi]
    rw [str_toList'] at this
    simp [List.getD, List.getElem?_eq_getElem hi] at this
    simpa using this) g1 g2
  refine wpList_plain hgd fun K hK' => ?_
  unfold Oper.wp
  simp [execOp, ho, hx, hrun, Result.andThen]
  exact hK' _ _ h2
theorem wd_frozen_fr (w : World) (L : List (Array Obj)) (n i : Nat) (c : Array Value) (t : TypeId) (fr : Nat × Nat) (hi : i < fr.1) : (wd w (#[.cells c t fr] :: L) n).frozen? ⟨sz w.heap.size (shape L), i, none⟩ = false := by
  simp only [World.frozen?, wd_at w L n w.heap.size (shape L) _ rfl rfl]
  obtain ⟨lo, hi'⟩ := fr
  simp at hi ⊢
  omega
theorem wd_frozen_at (w : World) (x1 x9 : Array Obj) (K : Nat) (C : Array Value) (h : K < C.size) : ∀ n, (wd w [#[.cells C 5 (C.size, C.size + 1)], x1, x9] n).frozen? ⟨sz w.heap.size [x1.size, x9.size], K, none⟩ = false := fun n => wd_frozen_fr w [x1, x9] n K C _ _ h
theorem set_bytes {C : Array Value} {l : List UInt8} (hC : ∀ i, i < l.length → C[i]? = (Lib.byteCells l)[i]?) (K : Nat) (c : UInt8) : ∀ i, i < (l.set K c).length → (C.setIfInBounds K (.int .u8 c.toNat))[i]? = (Lib.byteCells (l.set K c))[i]? := by
  intro i hi
  rw [List.length_set] at hi
  have h1 := hC i hi
  rw [Array.getElem?_setIfInBounds, bc_get, List.getElem?_set]
  rw [bc_get] at h1
  have hcs : i < C.size := by
    rw [List.getElem?_eq_getElem hi] at h1
    exact (Array.getElem?_eq_some_iff.1 h1).1
  by_cases hk : K = i
  · subst hk
    rw [if_pos rfl, if_pos hcs, if_pos rfl, if_pos hi]; rfl
  · rw [if_neg hk, if_neg hk, h1]
theorem tens_step {t : List UInt8} {j : Nat} {c : UInt8} (h : t[j]? = some c) : tens (t.take (j + 1)) = tens (t.take j) + if c = 10 then 1 else 0 := by
  rw [take_get t j c h]
  unfold tens
  rw [List.filter_append, List.length_append]
  by_cases hc : c = 10
  · subst hc; rfl
  · rw [if_neg hc, List.filter_cons, if_neg (by simpa using hc)]; rfl
theorem scut (l : List UInt8) (K : Nat) (h : K ≤ l.length) (W : World) : (Instr.slice 9 (.string (str l)) none (some (.int .i64 (K : Int))) none).run Tryd.prog W = .ok (.string (str (l.take K))) W := by
  have hs := str_size l
  rw [run_slice_string_h (P := Tryd.prog) W 9 (str l) Tryd.underlying9 .i64 (K : Int) (by omega) (by omega)]
  congr 2
  apply ByteArray.ext
  simp [str, List.extract_eq_take_drop]
theorem holdit {p : Prop} (h : Hid p) : p := h.out
/-- The text of no batches. -/
structure NoneF : Prop where
  out : ∀ (a : Option Addr) (c : Nat) W, Calls Tryd.prog 17 #[.slice a 0 c] W fun x w' => x = .returned (.tuple #[.string (str []), .int .i64 0]) ∧ More W w'
theorem noneF : NoneF := ⟨fun a c W => (dtext_any a c [] W (BatsAt.nil _ _) (by simp) (by decide)).mono (fun _ _ h => h.out)⟩
/-- How the changed text is read, and how the cut one. -/
theorem wrong_cases {l : List Bat} {s : List UInt8} (h : textOf l = (s, 0)) (hs : s.length ≤ 6000) (k : Nat) (hk : k < s.length) (c : UInt8) :
    ((∃ M, dumpRead (s.set k c) = (M, 0, 0) ∧ textOf M = (s.set k c, 0)) ∨ (∃ n, dumpRead (s.set k c) = ([], n, 4) ∧ tens (s.take k) + 1 ≤ n)) ∧
    ((∃ M, dumpRead (s.take k) = (M, 0, 0)) ∨ (∃ n, dumpRead (s.take k) = ([], n, 4) ∧ tens (s.take k) + 1 ≤ n)) := by
  constructor
  · rcases dump_read (s.set k c) with ⟨M, hd, hM⟩ | ⟨n, hd, _⟩ | ⟨h6, _⟩
    · exact .inl ⟨M, hd, hM⟩
    · exact .inr ⟨n, hd, dump_set h k hk c n hd⟩
    · rw [List.length_set] at h6; omega
  · rcases dump_read (s.take k) with ⟨M, hd, hM⟩ | ⟨n, hd, _⟩ | ⟨h6, _⟩
    · exact .inl ⟨M, hd⟩
    · exact .inr ⟨n, hd, dump_cut h k hk n hd⟩
    · rw [List.length_take] at h6; omega
abbrev cblk (C : Array Value) (K : Nat) (c : UInt8) : Array Obj := #[.cells (C.setIfInBounds K (.int .u8 c.toNat)) 5 (C.size, C.size + 1)]
set_option maxRecDepth 100000 in
set_option maxHeartbeats 12800000 in
theorem wrong_walk (ad : Option Addr) (cap : Nat) (l : List Btm) (A : Int) (c : UInt8) (w : World) (h : BatsAt w ad l) (hf : ∀ x ∈ l, x.b.recs.length ≤ maxLen) (hm : l.length ≤ maxLen) (hA0 : 0 ≤ A) (hA1 : A < 65536) :
    Calls Tryd.prog 6 #[.slice ad l.length cap, .int .u16 A, .int .u8 c.toNat] w fun x w' => x = .returned (.bool true) ∧ More w w' := by
  have HA := Lib.hid h
  obtain ⟨T1, T2, hT, HTX⟩ := textsF ad cap l hf hm
  have hsz1 := str_size T1
  by_cases hgo : T2 = 0 ∧ T1.length ≠ 0 ∧ T1.length ≤ 6000
  · obtain ⟨rfl, hne, h6⟩ := hgo
    have hne' : ((T1.length : Int) == 0) = false := by rw [beq_eq_false_iff_ne]; omega
    have hlt0 : 0 < T1.length := by omega
    obtain ⟨K, hK⟩ : ∃ K : Nat, A.tmod (T1.length : Int) = K := ⟨(A.tmod (T1.length : Int)).toNat, by have := Int.tmod_nonneg (T1.length : Int) hA0; omega⟩
    have hKl : K < T1.length := by have := Int.tmod_lt_of_pos A (show (0 : Int) < T1.length by omega); omega
    obtain ⟨hw1, hw2⟩ := wrong_cases hT h6 K hKl c
    have hlen' : (T1.set K c).length = T1.length := List.length_set
    have HS := Lib.hid (fun (i : Nat) (hi : i < T1.length) => (⟨_, List.getElem?_eq_getElem hi⟩ : ∃ x, T1[i]? = some x))
    have HSET := Lib.hid (fun (C : Array Value) (hC : ∀ i, i < T1.length → C[i]? = (Lib.byteCells T1)[i]?) => set_bytes hC K c)
    have HTEN := Lib.hid (fun (j : Nat) (x : UInt8) (hx : T1[j]? = some x) => tens_step hx)
    have hcut := fun (W : World) => scut T1 K (by omega) W
    clear h hf hm hT hne
    obtain ⟨F, hF⟩ : ∃ F, tens (T1.take K) + 1 = F := ⟨_, rfl⟩
    rw [hF] at hw1 hw2
    have hFb : F ≤ 6001 := by
      rw [← hF]; unfold tens
      have := List.length_filter_le (fun x : UInt8 => x == 10) (T1.take K)
      rw [List.length_take] at this; omega
    have hcl := c.toNat_lt
    refine calls_wd ?_
    go_enter Tryd.func6, Tryd.ntmps6
    go_wp2_with (first
      | (go_at_call 12; ((with_reducible refine (HTX.light _ (HA.out.more (more_wd _ _ _))).mono ?_); rintro e w1 hlr; obtain ⟨bl, rfl, ⟨x9, n9, rfl⟩, hb⟩ := hlr.out; clear hlr; have HB := Lib.hid hb; clear hb; cases bl))
      | (go_at_call 17; ((with_reducible refine (HTX.t1 _ (HA.out.more (more_wd _ _ _))).mono ?_); rintro e w1 ⟨rfl, x1, n1, rfl⟩))
      | (show wpList _ _ _ (⟨_, .convert 9 49 _, _, _, _, _⟩ :: _) _ _; refine at_conv_set rfl _ rfl rfl (by omega) ?_; intro C cp hC hcp1 hcp2; have HC := Lib.hid hC; have hKC : K < C.size := (by have h1 := hC K hKl; rw [bc_get, List.getElem?_eq_getElem hKl] at h1; exact (Array.getElem?_eq_some_iff.1 h1).1); have hfz := wd_frozen_at w x1 x9 K C hKC; clear hC)
      | (go_at_call 7; ((with_reducible refine (awake30 _).mono ?_); rintro e w1 ⟨rfl, x1, n1, rfl⟩)))
    · go_ret
      exact ⟨rfl, more_wd _ _ _⟩
    obtain ⟨n7, hn7⟩ : ∃ n7, n1 + 1 = n7 := ⟨_, rfl⟩
    rw [hn7]
    clear hn7 hfz
    go_loopw [11, 12] (fun f i wr => ∃ j : Nat, j ≤ K ∧ i = .int .i64 j ∧ f = .int .i64 ((tens (T1.take j) : Nat) + 1 : Int) ∧ wr = wd w [cblk C K c, x1, x9] n7) (fun f i _ => K - (intOf i).toNat)
    case atStart => exact ⟨0, Nat.zero_le _, rfl, rfl, rfl⟩
    case round =>
      obtain ⟨j, hj, rfl, rfl, rfl⟩ := hrel
      by_cases hjk : j < K
      · obtain ⟨x, hx⟩ := HS.out j (by omega)
        have hix := sindex (P := Tryd.prog) 9 Tryd.underlying9 T1 j x hx
        have HT := Lib.hid (HTEN.out j x hx)
        have htb : tens (T1.take j) ≤ 6000 := by
          unfold tens
          have := List.length_filter_le (fun x : UInt8 => x == 10) (T1.take j)
          rw [List.length_take] at this; omega
        have hxl := x.toNat_lt
        clear hx
        obtain ⟨G, hG⟩ : ∃ G, tens (T1.take j) = G := ⟨_, rfl⟩
        rw [hG] at HT htb ⊢
        clear hG
        by_cases h10 : x = 10
        · subst h10
          rw [if_pos rfl] at HT
          go_wp2
          go_roundw
          case rel => exact ⟨j + 1, by omega, by go_num, by rw [HT.out]; go_num, by first | rfl | trivial⟩
          case measure => simp [intOf]; omega
        · have h10' : ((x.toNat : Int) == 10) = false := by
            rw [beq_eq_false_iff_ne]; intro h; apply h10; apply UInt8.toNat_inj.1; show x.toNat = 10; omega
          rw [if_neg h10] at HT
          go_wp2
          go_roundw
          case rel => exact ⟨j + 1, by omega, by go_num, by rw [HT.out]; rfl, by first | rfl | trivial⟩
          case measure => simp [intOf]; omega
      · obtain rfl : j = K := by omega
        rw [show ((tens (T1.take j) : Nat) : Int) + 1 = (F : Nat) by omega]
        have HRB := Lib.hid (fun n => RB.of_block (w := wd w [cblk C j c, x1, x9] n) (wd_at w [x1, x9] n w.heap.size _ _ rfl rfl) (T1.set j c) cp (by rw [List.length_set]; exact hcp1) hcp2 (HSET.out C HC.out))
        have HN0 := noneF
        obtain ⟨T, hT⟩ : ∃ T, T1.set j c = T := ⟨_, rfl⟩
        obtain ⟨V, hV⟩ : ∃ V, T1.take j = V := ⟨_, rfl⟩
        have hTl : T.length = T1.length := by rw [← hT]; exact hlen'
        have hVl : V.length ≤ 6000 := by rw [← hV, List.length_take]; omega
        rw [hT, hTl] at HRB
        rw [hT] at hw1
        rw [hV] at hw2 hcut
        clear HSET HTEN HC HS hlen' hT hV hF
        have hs1 := fun (n : Nat) => (HRB.out n).run_str (P := Tryd.prog) 49 9 5 Tryd.underlying49 Tryd.underlying5 Tryd.underlying9
        have hs2 := fun (e1 e2 e3 : Array Obj) (n : Nat) => ((HRB.out 0).more (show More (wd w [cblk C j c, x1, x9] 0) (wd w [e1, e2, e3, cblk C j c, x1, x9] n) from more_cons (more_cons (more_cons (more_same _ _ _ _))))).run_str (P := Tryd.prog) 49 9 5 Tryd.underlying49 Tryd.underlying5 Tryd.underlying9
        simp only [shape_cons, shape_nil] at hs1 hs2
        rcases hw1 with ⟨M, hd1, hM⟩ | ⟨q1, hd1, hq1⟩
        · have HR1 := readsF (by omega) hd1
          have HAG := againF hM
          clear hd1 hM
          rcases hw2 with ⟨M2, hd2⟩ | ⟨q2, hd2, hq2⟩
          · have HR2 := readsF (by omega) hd2
            clear hd2
            go_wp2_with (first
              | (go_at_call 19; ((with_reducible refine (HR1.out _).mono ?_); rintro e w1 ⟨a2, c2, m2, rfl, he2, hb2, hf2, hl2, x2, n2, rfl⟩; have HE2 := Lib.hid he2; have HB2 : Hid (BatsAt (wd w [x2, cblk C j c, x1, x9] n2) a2 m2) := Lib.hid hb2; have HF2 := Lib.hid hf2; have HL2 := Lib.hid hl2; clear he2 hb2 hf2))
              | (go_at_call 17; ((with_reducible refine (HAG.out _ _ _ _ HB2.out HF2.out HL2.out HE2.out).mono ?_); rintro e w1 ⟨rfl, x3, n3, rfl⟩))
              | (go_at_call 19; ((with_reducible refine (HR2.out _).mono ?_); rintro e w1 ⟨a4, c4, m4, rfl, he4, hb4, hf4, hl4, x4, n4, rfl⟩; clear he4 hb4 hf4))
              | (go_at_call 7; ((with_reducible refine (awake30 _).mono ?_); rintro e w1 ⟨rfl, x1, n1, rfl⟩)))
            all_goals (go_ret; exact ⟨rfl, more_wd _ _ _⟩)
          · have HR2 := failsF (by omega) hd2
            have hq2' : (F : Int) ≤ q2 := by omega
            clear hd2
            go_wp2_with (first
              | (go_at_call 19; ((with_reducible refine (HR1.out _).mono ?_); rintro e w1 ⟨a2, c2, m2, rfl, he2, hb2, hf2, hl2, x2, n2, rfl⟩; have HE2 := Lib.hid he2; have HB2 : Hid (BatsAt (wd w [x2, cblk C j c, x1, x9] n2) a2 m2) := Lib.hid hb2; have HF2 := Lib.hid hf2; have HL2 := Lib.hid hl2; clear he2 hb2 hf2))
              | (go_at_call 17; ((with_reducible refine (HAG.out _ _ _ _ HB2.out HF2.out HL2.out HE2.out).mono ?_); rintro e w1 ⟨rfl, x3, n3, rfl⟩))
              | (go_at_call 19; ((with_reducible refine (HR2.out _).mono ?_); rintro e w1 ⟨a4, c4, rfl, x4, n4, rfl⟩))
              | (go_at_call 7; ((with_reducible refine (awake30 _).mono ?_); rintro e w1 ⟨rfl, x1, n1, rfl⟩)))
            all_goals (go_ret; exact ⟨rfl, more_wd _ _ _⟩)
        · have HR1 := failsF (by omega) hd1
          have hq1' : (F : Int) ≤ q1 := by omega
          clear hd1
          rcases hw2 with ⟨M2, hd2⟩ | ⟨q2, hd2, hq2⟩
          · have HR2 := readsF (by omega) hd2
            clear hd2
            go_wp2_with (first
              | (go_at_call 19; ((with_reducible refine (HR1.out _).mono ?_); rintro e w1 ⟨a2, c2, rfl, x2, n2, rfl⟩))
              | (go_at_call 17; ((with_reducible refine (HN0.out _ _ _).mono ?_); rintro e w1 ⟨rfl, x3, n3, rfl⟩))
              | (go_at_call 19; ((with_reducible refine (HR2.out _).mono ?_); rintro e w1 ⟨a4, c4, m4, rfl, he4, hb4, hf4, hl4, x4, n4, rfl⟩; clear he4 hb4 hf4))
              | (go_at_call 7; ((with_reducible refine (awake30 _).mono ?_); rintro e w1 ⟨rfl, x1, n1, rfl⟩)))
            all_goals (go_ret; exact ⟨rfl, more_wd _ _ _⟩)
          · have HR2 := failsF (by omega) hd2
            have hq2' : (F : Int) ≤ q2 := by omega
            clear hd2
            go_wp2_with (first
              | (go_at_call 19; ((with_reducible refine (HR1.out _).mono ?_); rintro e w1 ⟨a2, c2, rfl, x2, n2, rfl⟩))
              | (go_at_call 17; ((with_reducible refine (HN0.out _ _ _).mono ?_); rintro e w1 ⟨rfl, x3, n3, rfl⟩))
              | (go_at_call 19; ((with_reducible refine (HR2.out _).mono ?_); rintro e w1 ⟨a4, c4, rfl, x4, n4, rfl⟩))
              | (go_at_call 7; ((with_reducible refine (awake30 _).mono ?_); rintro e w1 ⟨rfl, x1, n1, rfl⟩)))
            all_goals (go_ret; exact ⟨rfl, more_wd _ _ _⟩)
  · clear h hf hm hT
    have hst : ((T2 == 0) = false ∧ (T2 != 0) = true) ∨ (T2 = 0 ∧ ((T1.length : Int) == 0) = true) ∨ (T2 = 0 ∧ ((T1.length : Int) == 0) = false ∧ (6000 : Int) < T1.length) := by
      by_cases h0 : T2 = 0
      · right
        by_cases h1 : T1.length = 0
        · exact .inl ⟨h0, by simp [h1]⟩
        · right; exact ⟨h0, by rw [beq_eq_false_iff_ne]; omega, by omega⟩
      · exact .inl ⟨beq_eq_false_iff_ne.2 h0, by rw [bne_iff_ne]; exact h0⟩
    clear hgo
    rcases hst with ⟨hs, hs2⟩ | ⟨rfl, hs2⟩ | ⟨rfl, hs2, hs3⟩
    all_goals
      refine calls_wd ?_
      go_enter Tryd.func6, Tryd.ntmps6
      go_wp2_with (first
        | (go_at_call 12; ((with_reducible refine (HTX.light _ (HA.out.more (more_wd _ _ _))).mono ?_); rintro e w1 hlr; obtain ⟨bl, rfl, ⟨x9, n9, rfl⟩, hb⟩ := hlr.out; clear hlr; have HB := Lib.hid hb; clear hb; cases bl))
        | (go_at_call 17; ((with_reducible refine (HTX.t1 _ (HA.out.more (more_wd _ _ _))).mono ?_); rintro e w1 ⟨rfl, x1, n1, rfl⟩))
        | (go_at_call 7; ((with_reducible refine (awake30 _).mono ?_); rintro e w1 ⟨rfl, x1, n1, rfl⟩)))
      all_goals (go_ret; exact ⟨rfl, more_wd _ _ _⟩)
set_option maxRecDepth 100000 in
theorem wrong_rd {base : Nat} {w : World} (v0 v1 v2 : Value) (k0 : Value.okWide Tryd.prog w .any base 27 v0) (k1 : Value.okWide Tryd.prog w .any base 48 v1) (k2 : Value.okWide Tryd.prog w .any base 5 v2) (r0 : Rd Tryd.prog w 27 v0.cells.toList) (r1 : Rd Tryd.prog w 48 v1.cells.toList) (r2 : Rd Tryd.prog w 5 v2.cells.toList) :
    Calls Tryd.prog 6 #[v0, v1, v2] w fun e w' => e = .returned (.bool true) ∧ More w w' := by
  obtain ⟨ad, cap, l, hv, hs, hf, hm⟩ := bats_rd r0
  obtain rfl := slice_of_cells hv Tryd.underlying27 k0
  obtain ⟨A, rfl, hA⟩ := Rd.one_int Tryd.underlying48 k1 r1
  obtain ⟨c, rfl, hc⟩ := Rd.one_int Tryd.underlying5 k2 r2
  obtain ⟨h1, h2⟩ := u8_wf hc
  have hA3 : IntKind.u16.min ≤ A ∧ A ≤ IntKind.u16.max := by simpa only [Lit.wf, Bool.and_eq_true, decide_eq_true_eq] using hA
  have hA2 : 0 ≤ A ∧ A ≤ 65535 := hA3
  have hcc : c = ((UInt8.ofNat c.toNat).toNat : Int) := by rw [u8_toNat _ (by omega), Int.toNat_of_nonneg h1]
  rw [hcc]
  exact wrong_walk ad cap l A (UInt8.ofNat c.toNat) w hs hf hm hA2.1 (by omega)

set_option maxRecDepth 100000 in
theorem liftedDumpWrong (os : Os) (started : os.Started) (H : Type) (enc : TypeId × Value → H) :
    ReturnsInHanded {} Tryd.checked os 6 .any (fun w args => (Rows.dumpWrongSpec.pre enc Tryd.prog Tryd.f6 Rows.dumpWrongRow.domain false w args ∧ laidMetH Tryd.prog Rows.dumpWrongRow.laid w) ∧ sizedMet enc Tryd.prog Tryd.f6 (OpenSpec.ofChange Rows.dumpWrongSpec) false w args) (Rows.dumpWrongSpec.post enc Tryd.prog Tryd.f6 false true false false) := by
  refine returnsInHanded_of_change_and (C := Tryd.checked) (X := fun w _ => laidMetH Tryd.prog Rows.dumpWrongRow.laid w) (fun _ _ _ hh h => h.of_heap hh) own started (by kernel_rfl) Tryd.func6
    (ChangeSpec.witness_shaped (enc := enc) (C := Tryd.checked) (os := os) (X := fun w _ => laidMetH Tryd.prog Rows.dumpWrongRow.laid w) false (World.laidAll Tryd.prog os Rows.dumpWrongRow.laid) #[.slice none 0 0, .int .u16 0, .int .u8 0] 8 (World.laidAll_os _ _ _)
      (World.shaped_of_ZipB (by kernel_rfl) (by kernel_rfl)) (by kernel_rfl) (by kernel_rfl) (by kernel_rfl)
      (by rw [MakeChecks.laidMetH_plain _ _ _ (by kernel_rfl)]; exact laidMet_laidAll _ (by kernel_rfl) (by kernel_rfl))) ?_
  intro W base args ds gs before hval0 hW hcnd _ _ _
  have hval : ∀ (j : Nat) t v, Tryd.f6.params[j]? = some t → args[j]? = some v → Value.okWide Tryd.prog W .any base t v := hval0
  have hW' := hW
  obtain ⟨p, q, hA0, hV, rfl, hfz, hnd⟩ := hW
  have hA : DataW.TrodAll enc Tryd.prog W 0 (fun _ => true) true Tryd.f6.params.toList args.toList ds p := hA0
  rw [Tryd.params6] at hA hval
  obtain ⟨v0, vs0, d0, ds0, p0, q0, hargs, rfl, rfl, h0, r0⟩ := trodAll_cons hA
  obtain ⟨v1, vs1, d1, ds1, p1, q1, rfl, rfl, rfl, h1, r1⟩ := trodAll_cons r0
  obtain ⟨v2, vs2, d2, ds2, p2, q2, rfl, rfl, rfl, h2, r2⟩ := trodAll_cons r1
  obtain ⟨rfl, rfl, rfl⟩ := trodAll_nil r2
  obtain rfl : args = #[v0, v1, v2] := by cases args; simp_all
  obtain ⟨rfl, rfl⟩ := trodVars_none hV
  have lt0 : ∀ x ∈ p0, x.block < W.heap.size := by obtain ⟨m, hm⟩ := h0; exact DataW.trod_lt m _ _ _ hm
  have rd0 : Rd Tryd.prog W 27 v0.cells.toList := by obtain ⟨m, hm⟩ := h0; exact ⟨H, enc, m, _, hm⟩
  have lt1 : ∀ x ∈ p1, x.block < W.heap.size := by obtain ⟨m, hm⟩ := h1; exact DataW.trod_lt m _ _ _ hm
  have rd1 : Rd Tryd.prog W 48 v1.cells.toList := by obtain ⟨m, hm⟩ := h1; exact ⟨H, enc, m, _, hm⟩
  have lt2 : ∀ x ∈ p2, x.block < W.heap.size := by obtain ⟨m, hm⟩ := h2; exact DataW.trod_lt m _ _ _ hm
  have rd2 : Rd Tryd.prog W 5 v2.cells.toList := by obtain ⟨m, hm⟩ := h2; exact ⟨H, enc, m, _, hm⟩
  clear hA0 hval0
  refine (wrong_rd v0 v1 v2 (hval 0 27 v0 rfl rfl) (hval 1 48 v1 rfl rfl) (hval 2 5 v2 rfl rfl) rd0 rd1 rd2).mono fun e W' ⟨he, hmore⟩ => ?_
  subst he
  have bel := hmore.below
  exact ⟨_, rfl, _, _, _, [], _, [], hW', trodAll_mk1 (shut_bool Tryd.underlying4 _), (trodAll_cons_mk (Below.trod laidOut (by kernel_rfl) (of_decide_eq_true (by kernel_rfl)) h0 bel lt0) (trodAll_cons_mk (Below.trod laidOut (by kernel_rfl) (of_decide_eq_true (by kernel_rfl)) h1 bel lt1) (trodAll_cons_mk (Below.trod laidOut (by kernel_rfl) (of_decide_eq_true (by kernel_rfl)) h2 bel lt2) trodAll_mk0))), rfl, bel.frame _, fun h => by cases h⟩

theorem overDumpWrong : Rows.dumpWrongRow.holds Tryd.pinned (OpenSpec.ofChange Rows.dumpWrongSpec) :=
  OpenClaim.holds_of_wide 6 Tryd.f6 rfl rfl rfl rfl rfl rfl rfl ⟨rfl, rfl, rfl, rfl, rfl⟩ rfl rfl rfl rfl rfl (by kernel_rfl) Tryd.func6 (by kernel_rfl)
    (of_decide_eq_true (by kernel_rfl)) (by unfold Func.isWrapper; first | (rw [if_pos (by decide +kernel)]; kernel_rfl) | (rw [if_neg (by decide +kernel)]; exact ⟨rfl, rfl⟩))
    (fun os started H enc _ => liftedDumpWrong os started H enc)

/-- THE STATEMENT: THE TIED CARD. -/
theorem provedDumpWrong : Rows.DumpWrongCardSaid :=
  Claim7.holds_tied_plain_at .later [] [.data, .pinned] true _ false overDumpWrong (fun _ h => by cases h) (by kernel_rfl) (fun _ h => by cases h) dumpWrong_row_tie rfl ⟨rfl, rfl⟩ (by kernel_rfl) rfl
    (fun f fn hf hfn => by
      obtain rfl : f = 6 := Option.some.inj ((show Tryd.prog.funcNamed "bilander/bilanderlaw30.DumpWrong" = some 6 by kernel_rfl).symm.trans hf) |>.symm
      obtain rfl : fn = Tryd.f6 := (Option.some.inj (Tryd.func6.symm.trans hfn)).symm
      exact ⟨by kernel_rfl, fun j t ht => by
        rw [Tryd.params6] at ht
        have hm : t ∈ [27, 48, 5] := by simpa using Array.mem_of_getElem? ht
        have hall : ([27, 48, 5].all fun u => !Tryd.prog.wantsStandIn u) = true := by kernel_rfl
        exact (show Tryd.prog.wantsStandIn t = false by simpa using List.all_eq_true.1 hall t hm)⟩)
    (by kernel_rfl)
#print axioms provedDumpWrong
end Go.Proofs.YtejokhgabcldhaaDoor
