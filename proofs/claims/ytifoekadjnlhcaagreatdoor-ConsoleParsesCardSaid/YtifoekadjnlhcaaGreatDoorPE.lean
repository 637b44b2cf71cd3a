/- the document's console: produce. -/
import Derived.Test.YtifoekadjnlhcaaGreatDoorPC
import Derived.Test.YtifoekadjnlhcaaGreatDoorPD
import Derived.Test.YtifoekadjnlhcaaGreatDoorMP
namespace Go.Proofs.YtifoekadjnlhcaaGreatDoor
open Go.ChangeShapes Go.WideShapes Go.ChangeAt Go.RowKit
set_option linter.unusedVariables false
set_option linter.unusedSimpArgs false
theorem takeR_lens : ∀ (cs : List UInt8) (ws s : List Word) (n : List Nat), takeR cs ws = some (s, n) → s.length = cs.countP (· == 115) ∧ n.length = cs.countP (· != 115)
  | [], [], s, n, h => by simp [takeR] at h; obtain ⟨rfl, rfl⟩ := h; exact ⟨rfl, rfl⟩
  | [], _ :: _, _, _, h => by simp [takeR] at h
  | _ :: _, [], _, _, h => by simp [takeR] at h
  | c :: cs, x :: ws, s, n, h => by
    have ih := takeR_lens cs ws
    rw [takeR] at h
    by_cases hc : c = 115
    · rw [if_pos hc] at h
      cases hq : takeR cs ws with
      | none => rw [hq] at h; cases h
      | some p =>
        obtain ⟨s', n'⟩ := p
        rw [hq] at h; cases h
        obtain ⟨h1, h2⟩ := ih _ _ hq
        subst hc
        simp [h1, h2]
    · rw [if_neg hc] at h
      cases hn : numW x with
      | none => rw [hn] at h; cases h
      | some k =>
        rw [hn] at h
        dsimp only at h
        split at h
        · cases h
        · cases hq : takeR cs ws with
          | none => rw [hq] at h; cases h
          | some p =>
            obtain ⟨s', n'⟩ := p
            rw [hq] at h; cases h
            obtain ⟨h1, h2⟩ := ih _ _ hq
            simp [h1, h2, hc]
theorem take7_some {ws s : List Word} {n : List Nat} (h : takeR cs7 ws = some (s, n)) : ∃ t i f p g q tm, s = [t] ∧ n = [i, f, p, g, q, tm] := by
  obtain ⟨h1, h2⟩ := takeR_lens _ _ _ _ h
  have h1 : s.length = 1 := h1
  have h2 : n.length = 6 := h2
  match s, h1, n, h2 with
  | [t], _, [i, f, p, g, q, tm], _ => exact ⟨t, i, f, p, g, q, tm, rfl, rfl⟩
structure RProd (w w' : World) (e : Ending) (ws : List Word) : Prop where
  out : match prodR ws with
    | none => e = .returned (.tuple #[.agg (rq (reqBlank 0) none 0), .bool false]) ∧ More w w'
    | some q => ∃ a cap x k, e = .returned (.tuple #[.agg (rq q a cap), .bool true]) ∧ w' = plus w x k ∧ RecsNew w.heap.size w' a cap q.batch.recs
theorem rprod_no {w w' : World} {e : Ending} {ws : List Word} (h : prodR ws = none) (he : e = .returned (.tuple #[.agg (rq (reqBlank 0) none 0), .bool false])) (hm : More w w') : RProd w w' e ws := ⟨by rw [h]; exact ⟨he, hm⟩⟩
theorem rprod_yes {w w' : World} {e : Ending} {ws : List Word} {q : Req} {a : Option Addr} {cap : Nat} (h : prodR ws = some q) (he : e = .returned (.tuple #[.agg (rq q a cap), .bool true])) (hm : More w w') (hr : RecsNew w.heap.size w' a cap q.batch.recs) : RProd w w' e ws := ⟨by
  rw [h]
  obtain ⟨x, k, hx⟩ := hm
  exact ⟨a, cap, x, k, he, hx, hr⟩⟩
section
variable {w : World} {L : List (Array Obj)} {n b o : Nat} {v : Value}
theorem cell_over2 (A B : Array Obj) (k : Nat) (hb : b < (wd w L n).heap.size) (hc : (wd w L n).cell? ⟨b, o, none⟩ = some v) : (wd w (A :: B :: L) k).cell? ⟨b, o, none⟩ = some v := by
  have h1 := cell_over B 0 hb hc
  exact cell_over A k (by have : More (wd w L n) (wd w (B :: L) 0) := ⟨B, 0, rfl⟩; exact Nat.lt_of_lt_of_le hb this.below.size) h1
theorem cell_over5 (A B C D E : Array Obj) (k : Nat) (hb : b < (wd w L n).heap.size) (hc : (wd w L n).cell? ⟨b, o, none⟩ = some v) : (wd w (A :: B :: C :: D :: E :: L) k).cell? ⟨b, o, none⟩ = some v := by
  have h2 := cell_over2 D E 0 hb hc
  have hs2 : b < (wd w (D :: E :: L) 0).heap.size := by rw [wd_size] at hb ⊢; simp only [shape_cons, sz]; omega
  have h4 := cell_over2 B C 0 hs2 h2
  have hs4 : b < (wd w (B :: C :: D :: E :: L) 0).heap.size := by rw [wd_size] at hb ⊢; simp only [shape_cons, sz]; omega
  exact cell_over A k hs4 h4
end
@[go_sem] theorem rq_ne_nil (q : Req) (a : Option Addr) (cap : Nat) : (rq q a cap = #[]) = False := by unfold rq reqCells; simp
theorem srd_single {w : World} {v : Value} {t : Word} (h : SRd w v [t]) : ∃ b o c, v = .slice (some ⟨b, o, none⟩) 1 c ∧ b < w.heap.size ∧ w.cell? ⟨b, o, none⟩ = some (.string (str t)) := by
  obtain ⟨a, c, hv, _, _, hc⟩ := h.out
  obtain ⟨b, o, rfl, hb, hc⟩ := hc (by simp)
  exact ⟨b, o, c, hv, hb, by simpa using hc 0 _ rfl⟩
theorem ird_six {w : World} {v : Value} {i f p g q tm : Nat} (h : IRd w v [i, f, p, g, q, tm]) : ∃ b o c, v = .slice (some ⟨b, o, none⟩) 6 c ∧ b < w.heap.size ∧ w.cell? ⟨b, o, none⟩ = some (.int .i64 (i : Nat)) ∧ w.cell? ⟨b, o + 1, none⟩ = some (.int .i64 (f : Nat)) ∧ w.cell? ⟨b, o + 2, none⟩ = some (.int .i64 (p : Nat)) ∧
    w.cell? ⟨b, o + 3, none⟩ = some (.int .i64 (g : Nat)) ∧ w.cell? ⟨b, o + 4, none⟩ = some (.int .i64 (q : Nat)) ∧ w.cell? ⟨b, o + 5, none⟩ = some (.int .i64 (tm : Nat)) := by
  obtain ⟨a, c, hv, _, _, hc⟩ := h.out
  obtain ⟨b, o, rfl, hb, hc⟩ := hc (by simp)
  exact ⟨b, o, c, hv, hb, by simpa using hc 0 _ rfl, by simpa using hc 1 _ rfl, by simpa using hc 2 _ rfl, by simpa using hc 3 _ rfl, by simpa using hc 4 _ rfl, by simpa using hc 5 _ rfl⟩
theorem SRd.pre {w : World} {b o N cap : Nat} {ws : List Word} (h : SRd w (.slice (some ⟨b, o, none⟩) N cap) ws) (k : Nat) (hk : k ≤ ws.length) : SRd w (.slice (some ⟨b, o, none⟩) k cap) (ws.take k) := by
  obtain ⟨a, c, hv, h1, h2, h3⟩ := h.out
  cases hv
  refine ⟨⟨_, cap, by rw [List.length_take, Nat.min_eq_left hk], by rw [List.length_take]; omega, h2, fun hne => ?_⟩, fun s hs => h.small s (List.mem_of_mem_take hs)⟩
  have hne2 : ws ≠ [] := fun e => hne (by rw [e]; simp)
  obtain ⟨b2, o2, e, hb, hc⟩ := h3 hne2
  cases e
  refine ⟨b, o, rfl, hb, fun i s hi => ?_⟩
  rw [List.getElem?_take] at hi
  split at hi
  · exact hc i s hi
  · cases hi
theorem run_pre7 (b o N cap : Nat) (h7 : 7 ≤ cap) (hm : cap ≤ maxLen) (W : World) : (Instr.slice 39 (.slice (some ⟨b, o, none⟩) N cap) none (some (.int .i64 7)) none).run Tryz.prog W = .ok (.slice (some ⟨b, o, none⟩) 7 cap) W := by
  have ht' : Tryz.prog.underlying 39 = some (.slice (Tryz.prog.elem 39)) := by simp [Program.elem, Tryz.underlying39]
  have he : Tryz.prog.elem 39 = 9 := by simp [Program.elem, Tryz.underlying39]
  rw [run_slice_h W 39 _ N cap ht' .i64 7 (by omega) (by omega), he, sz_strR]
  simp [Result.andThen, sliced, Addr.add]
end Go.Proofs.YtifoekadjnlhcaaGreatDoor
namespace Go.Proofs.YtifoekadjnlhcaaGreatDoor
open Go.ChangeShapes Go.WideShapes Go.ChangeAt Go.RowKit
set_option linter.unusedVariables false
set_option linter.unusedSimpArgs false
set_option maxRecDepth 100000 in
set_option maxHeartbeats 6400000 in
theorem rprod_any (v : Value) (ws : List Word) (w : World) (hv : SRd w v ws) : Calls Tryz.prog 27 #[v] w fun e w' => RProd w w' e ws := by
  have HV := Lib.hid hv
  have HSM := Lib.hid hv.small
  obtain ⟨N, hN⟩ : ∃ N, ws.length = N := ⟨_, rfl⟩
  have HN := Lib.hid hN
  by_cases hl : 8 ≤ N ∧ N ≤ 39
  · obtain ⟨hl1, hl2⟩ := hl
    obtain ⟨a0, cap, rfl, hcap, hmx, hcc⟩ := hv.out
    obtain ⟨b, o, rfl, hb, hcc⟩ := hcc (fun h => by rw [h] at hN; simp at hN; omega)
    rw [hN] at hcap HV ⊢
    have HCC := Lib.hid hcc
    have hs7 := run_pre7 b o N cap (by omega) hmx
    have h7 := HV.out.pre 7 (by rw [hN]; omega)
    have HT := Lib.hid (fun W hm => rtake_any cs7 (ws.take 7) _ W (h7.more hm) (by decide))
    have HPR : Hid (prodR ws = match takeR cs7 (ws.take 7) with
      | none => none
      | some (s, n) => some (prodOf (ws.drop 7) s n)) := Lib.hid (by unfold prodR; rw [if_pos ⟨by omega, by omega⟩]; rfl)
    obtain ⟨P7, hP7⟩ : ∃ P7 : Nat, N = P7 + 7 := ⟨N - 7, by omega⟩
    have hN7 : (N : Int) - 7 = (P7 : Int) := by omega
    have HP7 := Lib.hid hP7
    have hb8 : decide ((N : Int) < 8) = false := decide_eq_false (by omega)
    have hb39 : decide ((39 : Int) < (N : Int)) = false := decide_eq_false (by omega)
    clear hP7 hN hv hcc h7
    cases hq : takeR cs7 (ws.take 7) with
    | none =>
      have HQ := Lib.hid hq
      have HNO : Hid (prodR ws = none) := Lib.hid (by rw [HPR.out, hq])
      clear hq HPR
      refine calls_wd ?_
      go_enter Tryz.func27, Tryz.ntmps27
      go_wp2_with (first | (go_at_call 29; refine (HT.out _ (more_wd _ _ _)).mono ?_; rintro e w1 hs; have hs2 := hs.out; rw [HQ.out] at hs2; obtain ⟨rfl, x1, n1, rfl⟩ := hs2; clear hs))
      refine bodyPost_ret (v := .tuple #[.agg (rq (reqBlank 0) none 0), .bool false]) (by first | (simp [results, Tryz.results27, go_sem]; done) | (simp [results, Tryz.results27, go_sem]; rfl)) rfl ?_
      exact rprod_no HNO.out rfl (more_wd _ _ _)
    | some pr =>
      obtain ⟨s, n⟩ := pr
      obtain ⟨t, i, f, p, g, q, tm, rfl, rfl⟩ := take7_some hq
      have hf : ((f : Int) == 1) = decide (f = 1) := by rw [Bool.eq_iff_iff]; simp; omega
      obtain ⟨B, hB⟩ : ∃ B, decide (f = 1) = B := ⟨_, rfl⟩
      rw [hB] at hf
      obtain ⟨W7, hW7⟩ : ∃ W7, ws.drop 7 = W7 := ⟨_, rfl⟩
      have HW7L : Hid (W7.length = P7) := Lib.hid (by rw [← hW7, List.length_drop, HN.out, HP7.out]; omega)
      have HYES : Hid (prodR ws = some ({ reqBlank 3 with topic := t, index := i, flush := B, batch := ⟨0, P7, p, g, q, recsW tm 0 W7⟩ } : Req)) := Lib.hid (by
        rw [HPR.out, hq, hW7]
        show some ({ reqBlank 3 with topic := t, index := i, flush := decide (f = 1), batch := ⟨0, W7.length, p, g, q, recsW tm 0 W7⟩ } : Req) = _
        rw [hB, HW7L.out])
      have HAT : Hid (∀ j x, W7[j]? = some x → ws[j + 7]? = some x) := Lib.hid (fun j x h => by rw [← hW7, List.getElem?_drop] at h; rw [Nat.add_comm]; exact h)
      have HQ := Lib.hid hq
      have hP1 : 0 < P7 := by have := HP7.out; omega
      clear hq HPR hB hW7
      obtain ⟨i0, hi, hz0, hz1, hz2⟩ := info_parts info_rec
      refine calls_wd ?_
      go_enter Tryz.func27, Tryz.ntmps27
      go_wp2_with (first | (go_at_call 29; refine (HT.out _ (more_wd _ _ _)).mono ?_; rintro e w1 hs; have hs2 := hs.out; rw [HQ.out] at hs2; obtain ⟨vs, vn, y1, k1, rfl, rfl, hs9, hi9⟩ := hs2; rw [wd_plus] at hs9 hi9; obtain ⟨bs, os1, cs1, rfl, hbs, hcs⟩ := srd_single hs9; obtain ⟨bn, on1, cn1, rfl, hbn, hn0, hn1, hn2, hn3, hn4, hn5⟩ := ird_six hi9; have hcsF := fun (A B : Array Obj) (k : Nat) => cell_over2 A B k hbs hcs; have hn0F := fun (A B : Array Obj) (k : Nat) => cell_over2 A B k hbn hn0; have hn1F := fun (A B : Array Obj) (k : Nat) => cell_over2 A B k hbn hn1; have hn2F := fun (A B : Array Obj) (k : Nat) => cell_over2 A B k hbn hn2; have hn3F := fun (A B : Array Obj) (k : Nat) => cell_over2 A B k hbn hn3; have hn4F := fun (A B : Array Obj) (k : Nat) => cell_over2 A B k hbn hn4; have hn5F := fun (A B C D E : Array Obj) (k : Nat) => cell_over5 A B C D E k hbn hn5; clear hs hs9 hi9 hcs hn0 hn1 hn2 hn3 hn4 hn5))
      refine wp_region_new [0, 1, 2, 3, 4, 5, 6, 7, 8, 9, 10, 11, 12, 13, 14, 15, 16, 17, 18, 19, 20, 21, 22, 23] 24 7 [25] [true, true, true, true, true, true, true, true, true, true, true, true, true, true, true, true, true, true, true, true, true, true, true, true] [false, false, false, false, false, false, false, false, false, false, false, false, false, false, false, false, false, false, false, false, false, false, false, false, false, true] (fun b => .pointer (some ⟨b, 0, none⟩)) (.cells (rq (reqBlank 0) none 0) 27) ⟨rfl, rfl⟩ (by kernel_rfl) (by kernel_rfl) (fun _ _ d _ _ h => by cases d <;> exact h) ⟨_, _, _, _, rfl⟩ ?_
      apply Exists.intro
      refine ⟨?_, ?_, ?_⟩
      · intro E
        simp only [sel_t, sel_f, sel_n]
        repeat (go_big_quiet_step ((fail)))
        exact wpQuiet_nil rfl
      · intro o ho w0; obtain rfl := Option.some.inj ho; go_simp
      intro e0 m0
      simp only [sel_t, sel_f, sel_n, put_lit, List.set_cons_succ, List.set_cons_zero, shape_cons, shape_nil]
      go_wp2
      clear hcsF hn0F hn1F hn2F hn3F hn4F hf hs7 hb8 hb39
      go_loopw [8] (fun s8 wr => ∃ (j I : Nat) (m : Ext) (a : Option Addr) (c : Nat), j ≤ P7 ∧ Hid (I = j + 7) ∧ s8 = .int .i64 I ∧ wr = wd w (m.e :: [#[.cells (rq ⟨3, t, i, 0, false, B, 0, 0, 0, [], [], 0, ⟨0, P7, p, g, q, recsW tm 0 (W7.take j)⟩⟩ a c) 27], e0, y1, #[.cells (rq (reqBlank 0) none 0) 27]]) m.n ∧
        Hid (rowIn w.heap.size (shape [#[.cells (rq ⟨3, t, i, 0, false, B, 0, 0, 0, [], [], 0, ⟨0, P7, p, g, q, recsW tm 0 (W7.take j)⟩⟩ a c) 27], e0, y1, #[.cells (rq (reqBlank 0) none 0) 27]]) m.e 85 6 (.slice a j c) j ((recsW tm 0 (W7.take j)).flatMap recCells))) (fun s8 _ => N - (intOf s8).toNat)
      case atStart => exact ⟨0, 7, m0, none, 0, Nat.zero_le _, Lib.hid rfl, rfl, rfl, Lib.hid (rowIn_nil _ _ _ _ _)⟩
      case round =>
        obtain ⟨j, I, m, a, c, hjP, HIJ, rfl, rfl, HROW⟩ := hrel
        have hI7 : (I : Int) - 7 = (j : Int) := by have := HIJ.out; omega
        by_cases hj : j < P7
        · have hIN : I < N := by have := HIJ.out; have := HP7.out; omega
          obtain ⟨s, hs⟩ : ∃ s, W7[j]? = some s := ⟨_, List.getElem?_eq_getElem (by rw [HW7L.out]; exact hj)⟩
          have hws := HAT.out j s hs
          have hcell := HCC.out (j + 7) s hws
          rw [← HIJ.out] at hcell
          have HREC := Lib.hid (fun W => rrecord_any s W (HSM.out s (List.mem_of_getElem? hws)))
          have HSN := Lib.hid (recsW_snoc tm W7 0 j s hs)
          obtain ⟨X, hX⟩ : ∃ X, recW s = X := ⟨_, rfl⟩
          rw [hX] at HREC HSN
          obtain ⟨RS, hRS⟩ : ∃ RS, recsW tm 0 (W7.take j) = RS := ⟨_, rfl⟩
          have HL : Hid (RS.length = j) := Lib.hid (by rw [← hRS, recsW_len, List.length_take, HW7L.out]; omega)
          rw [hRS] at HROW HSN ⊢
          obtain ⟨xd, xt, xk, xkey, xe, xv⟩ := X
          try dsimp only at HREC
          have HSN2 : Hid (recsW tm 0 (W7.take (j + 1)) = RS ++ [⟨(j : Int), tm, xk, xkey, xe, xv⟩]) := Lib.hid (by rw [HSN.out, Nat.zero_add])
          clear hs hws hX hRS HSN
          have hset : ∀ x a0 c0 a c, (rq x a0 c0).setIfInBounds 17 (.slice a (j + 1) c) = rq { x with batch := { x.batch with recs := RS ++ [⟨(j : Int), tm, xk, xkey, xe, xv⟩] } } a c := fun x a0 c0 a c => by
            have := rq_set17 x a0 a c0 c (RS ++ [⟨(j : Int), tm, xk, xkey, xe, xv⟩])
            rwa [show (RS ++ [(⟨(j : Int), tm, xk, xkey, xe, xv⟩ : Rec)]).length = j + 1 by rw [List.length_append, HL.out]; rfl] at this
          have hLk : RS.length = j := HL.out
          go_wp2_with (first | (go_at_call 52; ((with_reducible refine (HREC.out _).mono ?_); rintro e w1 ⟨rfl, x1, n1, rfl⟩)))
          refine wp_region_mixf (fun (s : Value × Value) => wd w (#[.cells #[s.1, s.2, .bool xk, .string (str xkey), .bool xe, .string (str xv)] 85] :: x1 :: m.e :: [#[.cells (rq ⟨3, t, i, 0, false, B, 0, 0, 0, [], [], 0, ⟨0, P7, p, g, q, RS⟩⟩ a c) 27], e0, y1, #[.cells (rq (reqBlank 0) none 0) 27]]) (n1 + 1)) ((.int .i64 xd, .int .i64 xt)) [0, 1, 2, 3, 4] [5, 6, 7, 8] [true, true, true, true, true] [false, false, false, false, false, true, true, true, true] rfl ⟨rfl, rfl⟩ (by kernel_rfl) (by kernel_rfl) (fun _ _ d _ _ h => by cases d <;> exact h) ?_
          apply Exists.intro
          refine ⟨?_, ?_⟩
          · intro E
            simp only [sel_t, sel_f, sel_n]
            repeat (go_big_quiet_step ((fail)))
            exact wpQuiet_nil rfl
          simp only [sel_t, sel_f, sel_n, loudly_cons, loudly_nil]
          go_wp2
          refine ⟨⟨(_, _), rfl⟩, ?_⟩
          rw [loudly_cons]
          go_wp2
          refine ⟨⟨(_, _), rfl⟩, ?_⟩
          rw [loudly_cons]
          go_wp2
          refine ⟨⟨(_, _), rfl⟩, ?_⟩
          rw [loudly_cons]
          go_wp2
          refine ⟨⟨(_, _), rfl⟩, ?_⟩
          rw [loudly_nil]
          go_wp2_with (at_builtin; refine wp_append_rowC w.heap.size [_, _] rfl _ _ _ rfl 85 i0 _ 6 64 Tryz.underlying23 hi hz0 hz1 hz2 rfl (by decide) rfl (L := [#[.cells (rq ⟨3, t, i, 0, false, B, 0, 0, 0, [], [], 0, ⟨0, P7, p, g, q, RS⟩⟩ a c) 27], e0, y1, #[.cells (rq (reqBlank 0) none 0) 27]]) (.slice a j c) j _ rfl HROW.out _ _ 1 1 rfl rfl (by simp [Value.oneCell']) (by unfold maxLen; omega) (by omega) ?_; intro v8 m8 hr8; obtain ⟨a8, c8, rfl⟩ := rowIn_slice hr8; have HR8 := Lib.hid hr8; clear hr8)
          go_roundw
          case rel => exact ⟨j + 1, by omega, I + 1, Lib.hid (by have := HIJ.out; omega), by go_num, m8, a8, c8, by rw [HSN2.out], Lib.hid (by rw [HSN2.out, flat_recs]; exact HR8.out)⟩
          case measure => simp [intOf]; omega
        · obtain rfl : j = P7 := by omega
          have hIN : I = N := by have := HIJ.out; have := HP7.out; omega
          subst hIN
          have hT : W7.take j = W7 := List.take_of_length_le (by rw [HW7L.out]; exact Nat.le_refl _)
          rw [hT] at HROW ⊢
          obtain ⟨RS, hRS⟩ : ∃ RS, recsW tm 0 W7 = RS := ⟨_, rfl⟩
          have HL : Hid (RS.length = j) := Lib.hid (by rw [← hRS, recsW_len, HW7L.out])
          rw [hRS] at HROW HYES ⊢
          clear hT hRS
          have hLk : RS.length = j := HL.out
          go_wp2
          refine bodyPost_ret (v := .tuple #[.agg (rq ⟨3, t, i, 0, false, B, 0, 0, 0, [], [], 0, ⟨0, j, p, g, q, RS⟩⟩ a c), .bool true]) (by first | (simp [results, Tryz.results27, go_sem]; done) | (simp [results, Tryz.results27, go_sem]; rfl)) rfl ?_
          exact rprod_yes HYES.out rfl (more_wd _ _ _) ((recsnew_of_row (w := w) (L := [#[.cells (rq ⟨3, t, i, 0, false, B, 0, 0, 0, [], [], 0, ⟨0, j, p, g, q, RS⟩⟩ a c) 27], e0, y1, #[.cells (rq ⟨3, t, i, 0, false, B, 0, 0, 0, [], [], 0, ⟨0, j, p, g, q, RS⟩⟩ a c) 27]]) HROW.out HL.out hP1).keep (sz_le _ _) (fun _ _ _ => rfl))
  · have HNO : Hid (prodR ws = none) := Lib.hid (by unfold prodR; rw [if_neg (by rw [hN]; exact hl)])
    obtain ⟨a0, cap, rfl, hcap, hmx, hcc⟩ := hv.out
    rw [hN] at hcap HV ⊢
    clear hN hv hcc
    have hl2 : N < 8 ∨ 39 < N := by omega
    clear hl
    rcases hl2 with h8 | h39
    · refine calls_wd ?_
      go_enter Tryz.func27, Tryz.ntmps27
      go_wp2
      refine bodyPost_ret (v := .tuple #[.agg (rq (reqBlank 0) none 0), .bool false]) (by first | (simp [results, Tryz.results27, go_sem]; done) | (simp [results, Tryz.results27, go_sem]; rfl)) rfl ?_
      exact rprod_no HNO.out rfl (more_wd _ _ _)
    · have hb8 : decide ((N : Int) < 8) = false := decide_eq_false (by omega)
      refine calls_wd ?_
      go_enter Tryz.func27, Tryz.ntmps27
      go_wp2
      refine bodyPost_ret (v := .tuple #[.agg (rq (reqBlank 0) none 0), .bool false]) (by first | (simp [results, Tryz.results27, go_sem]; done) | (simp [results, Tryz.results27, go_sem]; rfl)) rfl ?_
      exact rprod_no HNO.out rfl (more_wd _ _ _)
end Go.Proofs.YtifoekadjnlhcaaGreatDoor
