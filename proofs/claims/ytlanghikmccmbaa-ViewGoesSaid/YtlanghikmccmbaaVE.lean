/- view, bilanderref36: Put. -/
import Derived.Test.YtlanghikmccmbaaVD
namespace Go.Proofs.Ytlanghikmccmbaa
open Go.ChangeShapes Go.WideShapes Go.ChangeAt Go.RowKit
set_option linter.unusedVariables false
set_option linter.unusedSimpArgs false

def rowB (x : VRow) : List UInt8 := text (str x.key) ++ text (str x.value) ++ put x.offset ++ put x.time
def rowsB (l : List VRow) : List UInt8 := l.flatMap rowB
def viewLay (v : Vw) : List UInt8 := put v.next ++ put v.rows.length ++ rowsB v.rows
def viewPut (v : Vw) : List UInt8 × Int := if viewCheck v ≠ 0 then ([], viewCheck v) else (viewLay v, 0)
theorem rowsB_snoc (l : List VRow) (x : VRow) : rowsB (l ++ [x]) = rowsB l ++ rowB x := by simp [rowsB]
structure RowFit (x : VRow) : Prop where
  k : x.key.length ≤ 64
  v : x.value.length ≤ 512
  o1 : -9223372036854775808 ≤ x.offset
  o2 : x.offset ≤ 9223372036854775807
  t1 : -9223372036854775808 ≤ x.time
  t2 : x.time ≤ 9223372036854775807
theorem text_str_len {l : List UInt8} {k : Nat} (h : l.length ≤ k) (hk : k ≤ 1000000) : (text (str l)).length ≤ k + 10 := by
  have hs := str_size l
  have := put_len (n := ((str l).size : Int)) (by omega) (by omega)
  unfold text
  rw [List.length_append, show (str l).data.toList = l from rfl]
  omega
theorem rowB_len {x : VRow} (h : RowFit x) : (rowB x).length ≤ 616 := by
  have h1 := text_str_len h.k (by omega)
  have h2 := text_str_len h.v (by omega)
  have h3 := put_len h.o1 h.o2
  have h4 := put_len h.t1 h.t2
  unfold rowB
  simp only [List.length_append]
  omega
theorem rowsB_len : ∀ (l : List VRow) (k : Nat), (∀ x ∈ l, RowFit x) → (rowsB (l.take k)).length ≤ l.length * 616
  | [], k, _ => by simp [rowsB]
  | x :: l, 0, _ => by simp [rowsB]
  | x :: l, k + 1, h => by
    have h1 := rowB_len (h x (by simp))
    have h2 := rowsB_len l k (fun y hy => h y (by simp [hy]))
    simp only [rowsB, List.take_succ_cons, List.flatMap_cons, List.length_append, List.length_cons] at h2 ⊢
    omega
theorem view_fit {v : Vw} (h : viewCheck v = 0) : (-9223372036854775808 ≤ v.next ∧ v.next ≤ 9223372036854775807) ∧ v.rows.length ≤ 4096 ∧ ∀ x ∈ v.rows, RowFit x := by
  obtain ⟨h1, h2, h3, h4, h5⟩ := viewCheck_ok h
  refine ⟨⟨by omega, by omega⟩, h3, fun x hx => ?_⟩
  obtain ⟨a, b, c, d, e, f⟩ := rowE_ok (rowsE_each h4 x hx)
  exact ⟨a, b, by omega, by omega, by omega, by omega⟩
theorem lit_srcs (w : World) (L : List (Array Obj)) (n : Nat) (C : Array Value) (t : TypeId) (ws : List (Value × List UInt8)) (hC : C.toList = ws.flatMap srcCells) : RowAt srcCells 1 (wd w (#[.cells C t] :: L) n) (some ⟨sz w.heap.size (shape L), 0, none⟩) ws := by
  refine ⟨fun hne => ⟨_, 0, rfl, ?_, fun i hi => ?_⟩⟩
  · rw [wd_size, shape_cons]; simp only [sz]; show _ < _ + 1; omega
  · rw [Nat.zero_add, wd_cell w L n _ i _ C t (0, 0) rfl rfl, ← hC]
    simp
theorem concat5 {v0 v1 v2 v3 v4 : Value} {l0 l1 l2 l3 l4 : List UInt8} {a : Option Addr} {w : World} (hr : RowAt srcCells 1 w a [(v0, l0), (v1, l1), (v2, l2), (v3, l3), (v4, l4)]) (h0 : RB w v0 l0) (h1 : RB w v1 l1) (h2 : RB w v2 l2) (h3 : RB w v3 l3) (h4 : RB w v4 l4)
    (ht : l0.length + l1.length + l2.length + l3.length + l4.length ≤ 1099511627776) : Calls Try.prog 44 #[.slice a 5 5] w fun x w' => ∃ v, x = .returned v ∧ BMade w w' v (l0 ++ (l1 ++ l2 ++ l3 ++ l4)) := by
  have h := concat_any a [(v0, l0), (v1, l1), (v2, l2), (v3, l3), (v4, l4)] 5 w hr (by
    intro p hp
    simp only [List.mem_cons, List.not_mem_nil, or_false] at hp
    rcases hp with rfl | rfl | rfl | rfl | rfl
    · exact h0
    · exact h1
    · exact h2
    · exact h3
    · exact h4) (by simp) (by simp [catB]; omega)
  rw [show catB [(v0, l0), (v1, l1), (v2, l2), (v3, l3), (v4, l4)] = l0 ++ (l1 ++ l2 ++ l3 ++ l4) by simp [catB]] at h
  exact h
theorem vfin2 {w : World} {m d : Array Obj} {n : Nat} {v : Value} {l l' : List UInt8} (h : BRow w [d] m v l) (hl : l = l') : BMade w (wd w [m, d] n) v l' := by subst hl; exact bmade_of2 h
set_option maxRecDepth 100000 in
set_option maxHeartbeats 3200000 in
theorem vput_any (v : Vw) (a : Option Addr) (cap : Nat) (w : World) (hr : VRowsAt w a v.rows) (hf : ∀ x ∈ v.rows, x.key.length ≤ maxLen ∧ x.value.length ≤ maxLen) (hl : v.rows.length ≤ maxLen) :
    Calls Try.prog 21 #[.agg #[.int .i64 v.next, .slice a v.rows.length cap]] w fun x w' => BRet w w' x (viewPut v).1 (viewPut v).2 := by
  have hck := Lib.hid (fun W h => vcheck_any v a cap W h hf hl)
  clear hf
  by_cases hn : viewCheck v = 0
  · have HP : Hid (viewPut v = (viewLay v, 0)) := Lib.hid (by unfold viewPut; rw [if_neg (by rw [hn]; simp)])
    obtain ⟨⟨hx1, hx2⟩, h4096, hfit⟩ := view_fit hn
    rw [hn] at hck
    clear hn hl
    generalize viewPut v = R at HP ⊢
    have HL : Hid (viewLay v = put v.next ++ put v.rows.length ++ rowsB v.rows) := Lib.hid rfl
    generalize viewLay v = LL at HP HL
    obtain ⟨next, rows⟩ := v
    dsimp only at *
    have HR := Lib.hid hr
    have HF := Lib.hid hfit
    have HBL := Lib.hid (fun k => rowsB_len rows k hfit)
    have hl1 := put_len hx1 hx2
    have hl2 := put_len (n := (rows.length : Int)) (by omega) (by omega)
    have HPL := Lib.hid (fun W => put_any (rows.length : Int) (by omega) (by omega) W)
    have HPN := Lib.hid (fun W => put_any next hx1 hx2 W)
    clear hr hfit
    refine calls_wd ?_
    go_enter Try.func21, Try.ntmps21
    go_wp2_with (first | (go_at_call 33; ((with_reducible refine (hck.out _ (HR.out.more (more_wd _ _ _))).mono ?_); rintro e w1 ⟨rfl, x1, n1, rfl⟩)))
    refine wp_region_mix [0, 1, 3, 4, 5] [2, 6, 7, 8] [true, true, false, true, true, true] [false, false, true, false, false, false, true, true, true] ⟨rfl, rfl⟩ (by kernel_rfl) (by kernel_rfl) (fun _ _ d _ _ h => by cases d <;> exact h) ?_
    apply Exists.intro
    refine ⟨?_, ?_⟩
    · intro E
      simp only [sel_t, sel_f, sel_n]
      repeat (go_big_quiet_step ((fail)))
      exact wpQuiet_nil rfl
    simp only [sel_t, sel_f, sel_n, loudly_cons, loudly_nil]
    go_wp2_with (first | (go_at_call 43; ((with_reducible refine (HPN.out _).mono ?_); rintro e w1 ⟨u1, rfl, x1⟩; obtain ⟨p1, rfl, hs1⟩ := x1.wd; clear x1)))
    refine ⟨over_cons _ (over_refl _ _ _), ?_⟩
    rw [loudly_cons]
    go_wp2_with (first | (go_at_call 43; ((with_reducible refine (HPL.out _).mono ?_); rintro e w1 ⟨u2, rfl, x1⟩; obtain ⟨p2, rfl, hs2⟩ := x1.wd; clear x1)))
    refine ⟨over_cons _ (over_cons _ (over_refl _ _ _)), ?_⟩
    rw [loudly_cons]
    go_wp2_with (first | (at_builtin; refine at_append rfl _ _ rfl rfl hs1 rfl hs2 (by omega) ?_; clear hs1 hs2; intro v3 m3 hr3))
    refine ⟨over_cons _ (over_refl _ _ _), ?_⟩
    rw [loudly_cons]
    go_wp2
    refine ⟨over_cons _ (over_refl _ _ _), ?_⟩
    rw [loudly_nil]
    obtain ⟨N, hN⟩ : ∃ N, put next ++ put (rows.length : Int) = N := ⟨_, rfl⟩
    have hNl : N.length ≤ 20 := by rw [← hN, List.length_append]; omega
    rw [hN] at hr3 HL
    clear hN hl1 hl2 HPL HPN
    go_wp2
    go_loopw [5, 24] (fun u i wr => ∃ (k : Nat) (m : Ext), k ≤ rows.length ∧ i = .int .i64 k ∧ BRow w [vbox next a rows.length cap 32] m.e u (N ++ rowsB (rows.take k)) ∧ wr = wd w [m.e, vbox next a rows.length cap 32] m.n) (fun _ i _ => rows.length - (intOf i).toNat)
    case atStart => exact ⟨0, ⟨x1 ++ m3.e, m3.n⟩, Nat.zero_le _, rfl, by rw [List.take_zero]; show BRow _ _ _ _ (N ++ []); rw [List.append_nil]; exact brow_under hr3, by rw [wd_merge]⟩
    case round =>
      obtain ⟨k, m, hk, rfl, hrow, rfl⟩ := hrel
      by_cases hlt : k < rows.length
      · obtain ⟨x, hx⟩ : ∃ x, rows[k]? = some x := ⟨_, List.getElem?_eq_getElem hlt⟩
        obtain ⟨bb, off, rfl, hb, c0, c1, c2, c3⟩ := vrows_at HR.out k x hx
        have hfx := HF.out x (List.mem_of_getElem? hx)
        have HS := Lib.hid (rowsB_snoc (rows.take k) x)
        rw [← take_get rows k _ hx] at HS
        have hb1 := HBL.out k
        have hb2 := HBL.out (k + 1)
        obtain ⟨Y, hY⟩ : ∃ Y, rowsB (rows.take k) = Y := ⟨_, rfl⟩
        obtain ⟨Z, hZ⟩ : ∃ Z, rowsB (rows.take (k + 1)) = Z := ⟨_, rfl⟩
        rw [hY, hZ] at HS
        rw [hY] at hb1 hrow
        rw [hZ] at hb2
        obtain ⟨NY, hNY⟩ : ∃ NY, N ++ Y = NY := ⟨_, rfl⟩
        have hNYl : NY.length ≤ 20 + Y.length := by rw [← hNY, List.length_append]; omega
        have HN : Hid (N ++ Z = NY ++ (text (str x.key) ++ text (str x.value) ++ put x.offset ++ put x.time)) := Lib.hid (by rw [HS.out, ← hNY, List.append_assoc]; rfl)
        rw [hNY] at hrow
        clear hNY
        clear hx hY HS
        obtain ⟨kk, vv, oo, tt⟩ := x
        dsimp only at *
        obtain ⟨f1, f2, f3, f4, f5, f6⟩ := hfx
        dsimp only at f1 f2 f3 f4 f5 f6
        have hs1 := str_size kk
        have hs2 := str_size vv
        have e1 := text_str_len f1 (by omega)
        have e2 := text_str_len f2 (by omega)
        have e3 := put_len f3 f4
        have e4 := put_len f5 f6
        have HT1 := Lib.hid (fun W => text_any (str kk) (by omega) W)
        have HT2 := Lib.hid (fun W => text_any (str vv) (by omega) W)
        have HP3 := Lib.hid (fun W => put_any oo f3 f4 W)
        have HP4 := Lib.hid (fun W => put_any tt f5 f6 W)
        generalize text (str kk) = T1 at *
        generalize text (str vv) = T2 at *
        generalize put oo = T3 at *
        generalize put tt = T4 at *
        clear f1 f2 f3 f4 f5 f6 hs1 hs2
        obtain ⟨a0, b0, rfl⟩ := rowIn_slice hrow
        go_wp2
        refine wp_region_mix [0, 1, 2, 4, 5, 7, 8, 10, 11] [3, 6, 9, 12, 13, 14, 15] [true, true, true, false, true, true, false, true, true, false, true, true] [false, false, false, true, false, false, true, false, false, true, false, false, true, true, true, true] ⟨rfl, rfl⟩ (by kernel_rfl) (by kernel_rfl) (fun _ _ d _ _ h => by cases d <;> exact h) ?_
        apply Exists.intro
        refine ⟨?_, ?_⟩
        · intro E
          simp only [sel_t, sel_f, sel_n]
          repeat (go_big_quiet_step ((fail)))
          exact wpQuiet_nil rfl
        simp only [sel_t, sel_f, sel_n, loudly_cons, loudly_nil]
        go_wp2_with (first | (go_at_call 45; ((with_reducible refine (HT1.out _).mono ?_); rintro e w1 ⟨x0, rfl, x1⟩; obtain ⟨p1, rfl, q1⟩ := x1.wd; clear x1; obtain ⟨a1, b1, rfl⟩ := rowIn_slice q1)))
        refine ⟨over_cons _ (over_refl _ _ _), ?_⟩
        rw [loudly_cons]
        go_wp2_with (first | (go_at_call 45; ((with_reducible refine (HT2.out _).mono ?_); rintro e w1 ⟨x0, rfl, x1⟩; obtain ⟨p2, rfl, q2⟩ := x1.wd; clear x1; obtain ⟨a2, b2, rfl⟩ := rowIn_slice q2)))
        refine ⟨over_cons _ (over_cons _ (over_refl _ _ _)), ?_⟩
        rw [loudly_cons]
        go_wp2_with (first | (go_at_call 43; ((with_reducible refine (HP3.out _).mono ?_); rintro e w1 ⟨x0, rfl, x1⟩; obtain ⟨p3, rfl, q3⟩ := x1.wd; clear x1; obtain ⟨a3, b3, rfl⟩ := rowIn_slice q3)))
        refine ⟨over_cons _ (over_cons _ (over_cons _ (over_refl _ _ _))), ?_⟩
        rw [loudly_cons]
        go_wp2_with (first | (go_at_call 43; ((with_reducible refine (HP4.out _).mono ?_); rintro e w1 ⟨x0, rfl, x1⟩; obtain ⟨p4, rfl, q4⟩ := x1.wd; clear x1; obtain ⟨a4, b4, rfl⟩ := rowIn_slice q4)))
        refine ⟨over_cons _ (over_cons _ (over_cons _ (over_cons _ (over_refl _ _ _)))), ?_⟩
        rw [loudly_cons]
        go_wp2
        refine ⟨over_cons _ (over_cons _ (over_cons _ (over_cons _ (over_cons _ (over_refl _ _ _))))), ?_⟩
        rw [loudly_cons]
        go_wp2_with (first | (go_at_call 44; refine (concat5 (l0 := NY) (l1 := T1) (l2 := T2) (l3 := T3) (l4 := T4) (lit_srcs w _ _ _ _ _ rfl) ((RB.of_row (k := 0) hrow _ rfl).more (more_cons (more_cons (more_cons (more_cons (more_cons (more_cons (more_same _ _ _ _)))))))) ((RB.of_row (k := 0) q1 _ rfl).more (more_cons (more_cons (more_cons (more_cons (more_same _ _ _ _)))))) ((RB.of_row (k := 0) q2 _ rfl).more (more_cons (more_cons (more_cons (more_same _ _ _ _))))) ((RB.of_row (k := 0) q3 _ rfl).more (more_cons (more_cons (more_same _ _ _ _)))) ((RB.of_row (k := 0) q4 _ rfl).more (more_cons (more_same _ _ _ _))) (by omega)).mono ?_; rintro e w1 ⟨cc, rfl, y1⟩; obtain ⟨p5, rfl, q5⟩ := y1.wd; clear y1))
        refine ⟨over_cons _ (over_cons _ (over_cons _ (over_cons _ (over_cons _ (over_cons _ (over_refl _ _ _)))))), ?_⟩
        rw [loudly_cons]
        go_wp2
        refine ⟨over_cons _ (over_cons _ (over_cons _ (over_cons _ (over_cons _ (over_cons _ (over_refl _ _ _)))))), ?_⟩
        rw [loudly_nil]
        go_wp2
        go_roundw
        case rel =>
          have q6 := brow_under (brow_under (brow_under (brow_under (brow_under (brow_under (brow_under q5))))))
          refine ⟨k + 1, ⟨_, p5.n⟩, by omega, by go_num, ?_, by iterate 7 rw [wd_merge]⟩
          rw [hZ, HN.out]
          exact q6
        case measure => simp [intOf]; omega
      · have hall : rows.take k = rows := List.take_of_length_le (by omega)
        rw [hall] at hrow
        go_wp2
        exact bodyPost_ret (v := .tuple #[u5, .int .i64 0]) (by simp [results, Try.results21, go_sem]) rfl ⟨u5, by rw [HP.out], vfin2 hrow (by rw [HP.out, HL.out])⟩
  · have HP : Hid (viewPut v = ([], viewCheck v)) := Lib.hid (by unfold viewPut; rw [if_pos hn])
    generalize viewPut v = R at HP ⊢
    generalize viewCheck v = E at *
    have hne : (E == 0) = false := by rw [beq_eq_false_iff_ne]; exact hn
    have hne2 : (E != 0) = true := by rw [bne_iff_ne]; exact hn
    obtain ⟨next, rows⟩ := v
    dsimp only at *
    have HR := Lib.hid hr
    clear hr
    unfold maxLen at hl
    refine calls_wd ?_
    go_enter Try.func21, Try.ntmps21
    go_wp2_with (first | (go_at_call 33; ((with_reducible refine (hck.out _ (HR.out.more (more_wd _ _ _))).mono ?_); rintro e w1 ⟨rfl, x1, n1, rfl⟩)))
    exact bodyPost_ret (v := .tuple #[.slice none 0 0, .int .i64 E]) (by simp [results, Try.results21, go_sem]) rfl ⟨_, by rw [HP.out], by rw [HP.out]; exact bmade_nil _ _ _⟩
end Go.Proofs.Ytlanghikmccmbaa
