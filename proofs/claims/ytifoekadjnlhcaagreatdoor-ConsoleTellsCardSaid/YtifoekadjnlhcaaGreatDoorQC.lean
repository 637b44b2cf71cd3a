/- console: fetched. -/
import Derived.Test.YtifoekadjnlhcaaGreatDoorQB
import Derived.Test.YtifoekadjnlhcaaGreatDoorQI
import Derived.Laws.OwnMore
namespace Go.Proofs.YtifoekadjnlhcaaGreatDoor
open Go.ChangeShapes Go.WideShapes Go.ChangeAt Go.RowKit
set_option linter.unusedVariables false
set_option linter.unusedSimpArgs false
def In61 (n : Int) : Prop := -2305843009213693952 ≤ n ∧ n ≤ 2305843009213693952
structure Mild (l : List Btm) : Prop where
  nb : l.length ≤ 70
  nr : ∀ x ∈ l, x.b.recs.length ≤ 40
  kv : ∀ x ∈ l, ∀ r ∈ x.b.recs, r.key.length ≤ 200 ∧ r.value.length ≤ 700
  base : ∀ x ∈ l, In61 x.b.base
  num : ∀ x ∈ l, ∀ r ∈ x.b.recs, In61 r.delta ∧ In61 r.time
structure LI (w u : World) (v : Value) (ls : List Word) : Prop where
  more : More w u
  own : u.ownsRow w.heap.size 9 1 v ls.length (ls.map sCell)
  small : ∀ s ∈ ls, s.length ≤ 1099511627776
theorem LI.start (w : World) : LI w w (.slice none 0 0) [] := ⟨More.refl w, World.ownsRow_nil w _ _ 1, fun x hx => (by cases hx)⟩
theorem LI.go {w u u' : World} {v : Value} {ls : List Word} (h : LI w u v ls) (hm : More u u') : LI w u' v ls := ⟨h.more.trans hm, owns_more h.own hm, h.small⟩
theorem LI.add {w u u' : World} {v v' : Value} {ls : List Word} {x : Word} (h : LI w u v ls) (hx : x.length ≤ 1099511627776) (ho : u'.ownsRow w.heap.size 9 1 v' (ls.length + 1) (ls.map sCell ++ [sCell x])) (hg : u.grownBy u' v.ownBlock) : LI w u' v' (ls ++ [x]) := by
  refine ⟨more_grown (B := 0) h.more h.own hg, by simpa using ho, fun y hy => ?_⟩
  rcases List.mem_append.1 hy with hy | hy
  · exact h.small y hy
  · simp at hy; subst hy; exact hx
theorem LI.srd {w u : World} {v : Value} {ls : List Word} (h : LI w u v ls) : SRd u v ls := srd_own h.own h.small
structure TW (b5 b7 : Nat) (C5 C7 : Array Value) where
  u : World
  h5 : u.heap[b5]? = some (.cells C5 25 (0, 0))
  h7 : u.heap[b7]? = some (.cells C7 85 (0, 0))
theorem blk_more {u u' : World} {b : Nat} {o : Obj} (h : u.heap[b]? = some o) (hm : More u u') : u'.heap[b]? = some o := by rw [hm.below.block b (lt_of_blk h)]; exact h
theorem blk_grown {u u' : World} {b B n : Nat} {E : TypeId} {v : Value} {xs : List Value} {C : Array Value} {t : TypeId} (h : u.heap[b]? = some (.cells C t (0, 0))) (ho : u.ownsRow B E 1 v n xs) (hE : t ≠ E) (hg : u.grownBy u' v.ownBlock) : u'.heap[b]? = some (.cells C t (0, 0)) := by
  rw [hg.block b (lt_of_blk h) (fun e => Lib.ownBlock_ne ho h hE e.symm)]; exact h
set_option maxRecDepth 100000 in
set_option maxHeartbeats 6400000 in
theorem fetched_any (k0 er off nx : Int) (db : Bool) (ge : Int) (ad : Option Addr) (cap : Nat) (l : List Btm) (pv nv : Value) (w : World) (h : BatsAt w ad l) (hM : Mild l) (hnx : In61 nx) :
    Calls Tryz.prog 37 #[.agg #[.int .u8 k0, .int .i64 er, .int .i64 off, .int .i64 nx, .bool db, .int .i64 ge, .slice ad l.length cap, pv, nv]] w fun e w' => LinesRet w w' e (fetchL l nx) := by
  have HA := Lib.hid (fun W (hm : More w W) => h.more hm)
  have HM := Lib.hid hM
  have hnb := hM.nb
  obtain ⟨i0, hi, hz0, hz1, hz2⟩ := info_parts info_str3
  obtain ⟨N, hN⟩ : ∃ N, l.length = N := ⟨_, rfl⟩
  rw [hN] at hnb ⊢
  have HN := Lib.hid hN
  have HNX := Lib.hid hnx
  clear hN h hM hnx
  refine calls_wd ?_
  go_enter Tryz.func37, Tryz.ntmps37
  go_wp2
  obtain ⟨RS, hRS⟩ : ∃ RS : Array Value, RS = #[.int .u8 k0, .int .i64 er, .int .i64 off, .int .i64 nx, .bool db, .int .i64 ge, .slice ad N cap, pv, nv] := ⟨_, rfl⟩
  have HRS := Lib.hid (show RS[3]? = some (.int .i64 nx) by rw [hRS]; rfl)
  have HRB0 : Hid (∀ n, (wd w [#[.cells #[.int .u8 k0, .int .i64 er, .int .i64 off, .int .i64 nx, .bool db, .int .i64 ge, .slice ad N cap, pv, nv] 46]] n).heap[sz w.heap.size []]? = some (.cells RS 46 (0, 0))) := Lib.hid (fun n => by rw [hRS]; exact wd_at w [] _ _ _ _ rfl rfl)
  clear hRS
  go_loopw [3, 11] (fun s3 s11 wr => ∃ (k : Nat) (v : Value) (ls : List Word), k ≤ N ∧ s11 = .int .i64 k ∧ v = s3 ∧ Hid (ls = (l.take k).flatMap (fun x => x.b.recs.map (recT x.b.base))) ∧ ls.length ≤ 40 * k ∧ Hid (LI w wr v ls) ∧ Hid (wr.heap[sz w.heap.size []]? = some (.cells RS 46 (0, 0)))) (fun _ s11 _ => N - (intOf s11).toNat)
  case atStart => exact ⟨0, _, [], Nat.zero_le _, rfl, rfl, Lib.hid rfl, Nat.zero_le _, Lib.hid ((LI.start w).go (more_wd _ _ _)), Lib.hid (HRB0.out _)⟩
  case round =>
    obtain ⟨k, v, ls, hkN, rfl, rfl, HLS, hlk, HI, HRB⟩ := hrel
    obtain ⟨wo, rfl⟩ : ∃ wo, wo = wr := ⟨_, rfl⟩
    by_cases hk : k < N
    · obtain ⟨x, hx⟩ : ∃ x, l[k]? = some x := ⟨_, List.getElem?_eq_getElem (by rw [HN.out]; exact hk)⟩
      have hmem := List.mem_of_getElem? hx
      have HX := Lib.hid (flat_takeT (fun x : Btm => x.b.recs.map (recT x.b.base)) hx)
      have HAT := Lib.hid (fun W (hm : More w W) => (HA.out W hm).each x hmem)
      obtain ⟨bb, boff, rfl, hbb, c0, c1, c2, c3, c4, c5⟩ := bats_at (HA.out wo HI.out.more) k x hx
      have hnr := HM.out.nr x hmem
      have HKV := Lib.hid (HM.out.kv x hmem)
      obtain ⟨hb1, hb2⟩ := HM.out.base x hmem
      have HNM := Lib.hid (HM.out.num x hmem)
      clear hx hmem
      obtain ⟨⟨b0, b1, b2, b3, b4, rs⟩, ra, rc⟩ := x
      dsimp only at HX HAT c0 c1 c2 c3 c4 c5 hnr HKV hb1 hb2 HNM
      obtain ⟨M, hMl⟩ : ∃ M, rs.length = M := ⟨_, rfl⟩
      rw [hMl] at hnr c5
      have HML := Lib.hid hMl
      clear hMl
      rw [← wd_nil wo]
      go_wp2
      obtain ⟨BA, hBA⟩ : ∃ BA : Array Value, BA = #[.int .i64 b0, .int .i64 b1, .int .i64 b2, .int .i64 b3, .int .i64 b4, .slice ra M rc] := ⟨_, rfl⟩
      have HBA := Lib.hid (show BA[0]? = some (.int .i64 b0) by rw [hBA]; rfl)
      have HBB0 : Hid (∀ n, (wd wo [#[.cells #[.int .i64 b0, .int .i64 b1, .int .i64 b2, .int .i64 b3, .int .i64 b4, .slice ra M rc] 25]] n).heap[sz wo.heap.size []]? = some (.cells BA 25 (0, 0))) := Lib.hid (fun n => by rw [hBA]; exact wd_at wo [] _ _ _ _ rfl rfl)
      clear hBA
      go_loopw [3, 18] (fun s3 s18 wr => ∃ (j : Nat) (v2 : Value) (ls2 : List Word), j ≤ M ∧ s18 = .int .i64 j ∧ v2 = s3 ∧ Hid (ls2 = ls ++ (rs.take j).map (recT b0)) ∧ ls2.length ≤ 40 * k + j ∧ Hid (LI w wr v2 ls2) ∧ Hid (wr.heap[sz w.heap.size []]? = some (.cells RS 46 (0, 0))) ∧ Hid (wr.heap[sz wo.heap.size []]? = some (.cells BA 25 (0, 0)))) (fun _ s18 _ => M - (intOf s18).toNat)
      case atStart => exact ⟨0, _, ls, Nat.zero_le _, rfl, rfl, Lib.hid (by simp), by omega, Lib.hid (HI.out.go (more_wd _ _ _)), Lib.hid (blk_more HRB.out (more_wd _ _ _)), Lib.hid (HBB0.out _)⟩
      case round =>
        obtain ⟨j, v2, ls2, hjM, rfl, rfl, HL2, hlj, HI2, HRB2, HBB2⟩ := hrel
        by_cases hj : j < M
        · obtain ⟨r, hr⟩ : ∃ r, rs[j]? = some r := ⟨_, List.getElem?_eq_getElem (by rw [HML.out]; exact hj)⟩
          have hmr := List.mem_of_getElem? hr
          obtain ⟨rb, roff, rfl, hrb, r0, r1, r2, r3, r4, r5⟩ := recs_at (HAT.out wr HI2.out.more) j r hr
          obtain ⟨hkl, hvl⟩ := HKV.out r hmr
          obtain ⟨⟨hd1, hd2⟩, ht1, ht2⟩ := HNM.out r hmr
          have HRS2 : Hid ((rs.take (j + 1)).map (recT b0) = (rs.take j).map (recT b0) ++ [recT b0 r]) := Lib.hid (by
            obtain ⟨hl, rfl⟩ := List.getElem?_eq_some_iff.1 hr
            rw [List.take_succ_eq_append_getElem hl, List.map_append]; rfl)
          clear hr hmr
          obtain ⟨rd, rt, rk, rkey, rdead, rval⟩ := r
          dsimp only at r0 r1 r2 r3 r4 r5 hkl hvl hd1 hd2 ht1 ht2
          rw [← wd_nil wr]
          go_wp2
          generalize hq7 : sz wr.heap.size [] = q7
          generalize hq5 : sz wo.heap.size [] = q5 at HBB2
          obtain ⟨W1, hW1⟩ : ∃ W1, wd wr [#[.cells #[.int .i64 rd, .int .i64 rt, .bool rk, .string (str rkey), .bool rdead, .string (str rval)] 85]] wr.drawn = W1 := ⟨_, rfl⟩
          have HI3 : Hid (LI w W1 v2 ls2) := Lib.hid (hW1 ▸ HI2.out.go (more_wd _ _ _))
          have HRB3 : Hid (W1.heap[sz w.heap.size []]? = some (.cells RS 46 (0, 0))) := Lib.hid (hW1 ▸ blk_more HRB2.out (more_wd _ _ _))
          have H5 : Hid (W1.heap[q5]? = some (.cells BA 25 (0, 0))) := Lib.hid (hW1 ▸ blk_more HBB2.out (more_wd _ _ _))
          have H7 : Hid (W1.heap[q7]? = some (.cells #[.int .i64 rd, .int .i64 rt, .bool rk, .string (str rkey), .bool rdead, .string (str rval)] 85 (0, 0))) := Lib.hid (by rw [← hW1, ← hq7]; exact wd_at wr [] _ _ _ _ rfl rfl)
          have hw1 := HI3.out.more.below.size
          rw [hW1, ← wd_nil W1]
          have HQ5 := Lib.hid hq5
          clear hW1 hq7 hq5 HI2 HRB2 HBB2 r0 r1 r2 r3 r4 r5
          have f5 : ∀ s : TW q5 q7 BA #[.int .i64 rd, .int .i64 rt, .bool rk, .string (str rkey), .bool rdead, .string (str rval)], s.u.cell? ⟨q5, 0, none⟩ = some (.int .i64 b0) := fun s => by rw [Lib.cell_of_heap s.h5, HBA.out]
          have g0 : ∀ s : TW q5 q7 BA #[.int .i64 rd, .int .i64 rt, .bool rk, .string (str rkey), .bool rdead, .string (str rval)], s.u.cell? ⟨q7, 0, none⟩ = some (.int .i64 rd) := fun s => by rw [Lib.cell_of_heap s.h7]; rfl
          have g1 : ∀ s : TW q5 q7 BA #[.int .i64 rd, .int .i64 rt, .bool rk, .string (str rkey), .bool rdead, .string (str rval)], s.u.cell? ⟨q7, 1, none⟩ = some (.int .i64 rt) := fun s => by rw [Lib.cell_of_heap s.h7]; rfl
          have g2 : ∀ s : TW q5 q7 BA #[.int .i64 rd, .int .i64 rt, .bool rk, .string (str rkey), .bool rdead, .string (str rval)], s.u.cell? ⟨q7, 2, none⟩ = some (.bool rk) := fun s => by rw [Lib.cell_of_heap s.h7]; rfl
          have g3 : ∀ s : TW q5 q7 BA #[.int .i64 rd, .int .i64 rt, .bool rk, .string (str rkey), .bool rdead, .string (str rval)], s.u.cell? ⟨q7, 3, none⟩ = some (.string (str rkey)) := fun s => by rw [Lib.cell_of_heap s.h7]; rfl
          have g4 : ∀ s : TW q5 q7 BA #[.int .i64 rd, .int .i64 rt, .bool rk, .string (str rkey), .bool rdead, .string (str rval)], s.u.cell? ⟨q7, 4, none⟩ = some (.bool rdead) := fun s => by rw [Lib.cell_of_heap s.h7]; rfl
          have g5 : ∀ s : TW q5 q7 BA #[.int .i64 rd, .int .i64 rt, .bool rk, .string (str rkey), .bool rdead, .string (str rval)], s.u.cell? ⟨q7, 5, none⟩ = some (.string (str rval)) := fun s => by rw [Lib.cell_of_heap s.h7]; rfl
          have HD1 := Lib.hid (fun W => cdig_any (b0 + rd) (by omega) (by omega) W)
          have HD2 := Lib.hid (fun W => cdig_any rt (by omega) (by omega) W)
          have HSH := Lib.hid (fun W => shown_any rd rt rk rdead rkey rval W hkl hvl)
          have hl1 := digI_len (n := b0 + rd) ⟨by omega, by omega⟩
          have hl2 := digI_len (n := rt) ⟨by omega, by omega⟩
          have hl3 := shownW_len rdead rk rkey rval
          obtain ⟨D1, hD1⟩ : ∃ D1, digI (b0 + rd) = D1 := ⟨_, rfl⟩
          obtain ⟨D2, hD2⟩ : ∃ D2, digI rt = D2 := ⟨_, rfl⟩
          obtain ⟨S3, hS3⟩ : ∃ S3, shownW rdead rk rkey rval = S3 := ⟨_, rfl⟩
          obtain ⟨T1, hT1⟩ : ∃ T, D1 ++ [32] = T := ⟨_, rfl⟩
          obtain ⟨T2, hT2⟩ : ∃ T, T1 ++ D2 = T := ⟨_, rfl⟩
          obtain ⟨T3, hT3⟩ : ∃ T, T2 ++ [32] = T := ⟨_, rfl⟩
          obtain ⟨T, hT⟩ : ∃ T, T3 ++ S3 = T := ⟨_, rfl⟩
          have HRT : Hid (recT b0 ⟨rd, rt, rk, rkey, rdead, rval⟩ = T) := Lib.hid (by rw [← hT, ← hT3, ← hT2, ← hT1, ← hD1, ← hD2, ← hS3]; rfl)
          rw [hD1] at HD1 hl1
          rw [hD2] at HD2 hl2
          rw [hS3] at HSH hl3
          have hT1l : T1.length ≤ 21 := by rw [← hT1]; simp; omega
          have hT2l : T2.length ≤ 41 := by rw [← hT2]; simp; omega
          have hT3l : T3.length ≤ 42 := by rw [← hT3]; simp; omega
          have hTl : T.length ≤ 2000 := by rw [← hT]; simp; omega
          have ha1 := saddT (P := Tryz.prog) hT1 (by omega)
          have ha2 := saddT (P := Tryz.prog) hT2 (by omega)
          have ha3 := saddT (P := Tryz.prog) hT3 (by omega)
          have ha4 := saddT (P := Tryz.prog) hT (by omega)
          rw [show str [32] = { data := #[32] } from rfl] at ha1 ha3
          clear hD1 hD2 hS3 hT hT1 hT2 hT3 hl1 hl2 hl3 hT1l hT2l hT3l
          refine wp_region_chain (fun (s : TW q5 q7 BA #[.int .i64 rd, .int .i64 rt, .bool rk, .string (str rkey), .bool rdead, .string (str rval)]) => s.u) (⟨wd W1 [] (W1.drawn + 1), blk_more H5.out (more_wd _ _ _), blk_more H7.out (more_wd _ _ _)⟩) [([0, 1, 2, 3, 4, 5, 8, 9, 13], 6), ([7], 10), ([11, 12], 14), ([15], 16), ([], 17)] [18] [([true, true, true, true, true, true, false, false, true, true, false, false, false, true], [false, false, false, false, false, false, true]), ([false, false, false, false, false, false, false, true], [false, false, false, false, false, false, false, false, false, false, true]), ([false, false, false, false, false, false, false, false, false, false, false, true, true], [false, false, false, false, false, false, false, false, false, false, false, false, false, false, true]), ([false, false, false, false, false, false, false, false, false, false, false, false, false, false, false, true], [false, false, false, false, false, false, false, false, false, false, false, false, false, false, false, false, true]), ([], [false, false, false, false, false, false, false, false, false, false, false, false, false, false, false, false, false, true])] [false, false, false, false, false, false, false, false, false, false, false, false, false, false, false, false, false, false, true] rfl rfl ⟨rfl, rfl, rfl, rfl, rfl, rfl, rfl, rfl, rfl, rfl, trivial⟩ (by kernel_rfl) (by kernel_rfl) (fun _ _ d _ _ h => by cases d <;> exact h) ?_
          refine ⟨rfl, ?_⟩
          apply Exists.intro
          refine ⟨?_, ?_⟩
          · intro E
            simp only [sel_t, sel_f, sel_n]
            repeat (go_big_quiet_step ((fail)))
            exact wpQuiet_nil rfl
          simp only [sel_t, sel_f, sel_n]
          go_wp2_with (first | (go_at_call 13; ((with_reducible refine (HD1.out _).mono ?_); rintro e w1 ⟨rfl, x1, n1, rfl⟩)))
          refine ⟨⟨⟨_, blk_more H5.out (more_wd _ _ _), blk_more H7.out (more_wd _ _ _)⟩, rfl⟩, ?_⟩
          refine ⟨rfl, ?_⟩
          apply Exists.intro
          refine ⟨?_, ?_⟩
          · intro E
            simp only [sel_t, sel_f, sel_n]
            repeat (go_big_quiet_step ((fail)))
            exact wpQuiet_nil rfl
          try simp only [sel_t, sel_f, sel_n]
          go_wp2_with (first | (go_at_call 13; ((with_reducible refine (HD2.out _).mono ?_); rintro e w1 ⟨rfl, x1, n1, rfl⟩)))
          refine ⟨⟨⟨_, blk_more H5.out (more_wd _ _ _), blk_more H7.out (more_wd _ _ _)⟩, rfl⟩, ?_⟩
          refine ⟨rfl, ?_⟩
          apply Exists.intro
          refine ⟨?_, ?_⟩
          · intro E
            simp only [sel_t, sel_f, sel_n]
            repeat (go_big_quiet_step ((fail)))
            exact wpQuiet_nil rfl
          try simp only [sel_t, sel_f, sel_n]
          go_wp2_with (first | (go_at_call 57; ((with_reducible refine (HSH.out _).mono ?_); rintro e w1 ⟨rfl, x1, n1, rfl⟩)))
          refine ⟨⟨⟨_, blk_more H5.out (more_wd _ _ _), blk_more H7.out (more_wd _ _ _)⟩, rfl⟩, ?_⟩
          refine ⟨rfl, ?_⟩
          apply Exists.intro
          refine ⟨?_, ?_⟩
          · intro E
            simp only [sel_t, sel_f, sel_n]
            repeat (go_big_quiet_step ((fail)))
            exact wpQuiet_nil rfl
          try simp only [sel_t, sel_f, sel_n]
          go_wp2
          refine ⟨⟨⟨_, blk_more H5.out (more_wd _ _ _), blk_more H7.out (more_wd _ _ _)⟩, rfl⟩, ?_⟩
          refine ⟨rfl, ?_⟩
          apply Exists.intro
          refine ⟨?_, ?_⟩
          · intro E
            simp only [sel_t, sel_f, sel_n]
            repeat (go_big_quiet_step ((fail)))
            exact wpQuiet_nil rfl
          try simp only [sel_t, sel_f, sel_n]
          go_wp2_with (first
            | (at_builtin; refine wp_append_base rfl _ _ 39 rfl w.heap.size 9 i0 _ 1 16 Tryz.underlying39 hi hz0 hz1 hz2 rfl (by decide) _ _ _ rfl HI3.out.own #[.string (str T)] 9 1 1 rfl rfl (by simp [Value.oneCell']) (by unfold maxLen; omega) (by omega) hw1 ?_; intro v7 u7 ho7 hg7; have HO7 := Lib.hid ho7; have HG7 := Lib.hid hg7; clear ho7 hg7))
          refine ⟨⟨⟨u7, blk_grown H5.out HI3.out.own (by decide) HG7.out, blk_grown H7.out HI3.out.own (by decide) HG7.out⟩, wd_nil u7⟩, ?_⟩
          refine ⟨rfl, ?_⟩
          apply Exists.intro
          refine ⟨?_, ?_⟩
          · intro E
            simp only [sel_t, sel_f, sel_n]
            repeat (go_big_quiet_step ((fail)))
            exact wpQuiet_nil rfl
          try simp only [sel_t, sel_f, sel_n]
          rw [wd_nil u7]
          have hq5 := HQ5.out
          subst hq5
          go_wp2
          go_roundw
          case rel => exact ⟨j + 1, v7, ls2 ++ [T], by omega, by go_num, rfl, Lib.hid (by rw [HRS2.out, HL2.out, HRT.out, List.append_assoc]), by simp; omega, Lib.hid (HI3.out.add (by omega) HO7.out HG7.out), Lib.hid (blk_grown HRB3.out HI3.out.own (by decide) HG7.out), Lib.hid (blk_grown H5.out HI3.out.own (by decide) HG7.out)⟩
          case measure => simp [intOf]; omega
        · obtain rfl : j = M := by omega
          have hall : rs.take j = rs := List.take_of_length_le (by rw [HML.out]; exact Nat.le_refl _)
          go_wp2
          go_roundw
          case rel => exact ⟨k + 1, v2, ls2, by omega, by go_num, rfl, Lib.hid (by rw [HX.out, HL2.out, hall, HLS.out]), by omega, HI2, HRB2⟩
          case measure => simp [intOf]; omega
    · obtain rfl : k = N := by omega
      have hall : l.take k = l := List.take_of_length_le (by rw [HN.out]; exact Nat.le_refl _)
      obtain ⟨hx1, hx2⟩ := HNX.out
      have HD := Lib.hid (fun W => cdig_any nx (by omega) (by omega) W)
      have hdl := digI_len (n := nx) ⟨by omega, by omega⟩
      have hw1 := HI.out.more.below.size
      have c3 : wo.cell? ⟨sz w.heap.size [], 3, none⟩ = some (.int .i64 nx) := by rw [Lib.cell_of_heap HRB.out]; exact HRS.out
      have hlt := lt_of_blk HRB.out
      obtain ⟨D, hD⟩ : ∃ D, digI nx = D := ⟨_, rfl⟩
      obtain ⟨T, hT⟩ : ∃ T, [110, 101, 120, 116, 32] ++ D = T := ⟨_, rfl⟩
      have HT : Hid (fetchL l nx = ls ++ [T]) := Lib.hid (by unfold fetchL; rw [HLS.out, hall, ← hT, ← hD])
      rw [hD] at HD hdl
      have hTl : T.length ≤ 25 := by rw [← hT]; simp; omega
      have ha := saddT (P := Tryz.prog) hT (by omega)
      rw [show str [110, 101, 120, 116, 32] = { data := #[110, 101, 120, 116, 32] } from rfl] at ha
      clear hD hT hall hdl
      generalize sz w.heap.size [] = qr at c3 hlt
      rw [← wd_nil wo]
      go_wp2_with (first
        | (go_at_call 13; ((with_reducible refine (HD.out _).mono ?_); rintro e w1 ⟨rfl, x1, n1, rfl⟩))
        | (at_builtin; refine wp_append_base rfl _ _ 39 rfl w.heap.size 9 i0 _ 1 16 Tryz.underlying39 hi hz0 hz1 hz2 rfl (by decide) _ _ _ rfl HI.out.own #[.string (str T)] 9 1 1 rfl rfl (by simp [Value.oneCell']) (by unfold maxLen; omega) (by omega) hw1 ?_; intro v7 u7 ho7 hg7; have HO7 := Lib.hid ho7; have HG7 := Lib.hid hg7; clear ho7 hg7; rw [wd_nil u7]))
      go_ret
      have HL := HI.out.add (by omega) HO7.out HG7.out
      rw [HT.out]
      obtain ⟨x, m, hxm⟩ := HL.more
      exact ⟨_, x, m, rfl, hxm, HL.srd⟩
theorem run_append_zero {P : Program} {w : World} (base : Nat) (t ty e : TypeId) (i : TypeInfo) (size : Nat) (ht : P.underlying t = some (.slice e)) (hi : P.info? e = some i)
    (v : Value) (n c : Nat) (xs : List Value) (hown : w.ownsRow base e size v n xs) : (Builtin.append_ #[t, t] ty #[v, .slice none 0 c]).run P w = .ok v w := by
  rcases hown.2 with ⟨rfl, rfl⟩ | ⟨g, cap, cur, rfl, _, _, hnc, _⟩
  · simp [Builtin.append_, run_underlying ht, sizeOf, typeInfo, hi, Builtin.lenOf, Builtin.firstCells]
  · simp [Builtin.append_, run_underlying ht, sizeOf, typeInfo, hi, Builtin.lenOf, Builtin.firstCells, hnc, storeCells]
theorem wp_append_zero {P : Program} {w : World} {ops : Array Oper} {rest : List Oper} {o : Oper} {a : Act} {Q : Exit → Act → World → Prop} (hgd : o.guard = none) (s x : Operand) (t : TypeId)
    (ho : o.op = .call { callee := .builtin .append, args := #[s, x], argTypes := #[t, t] })
    (base : Nat) (e : TypeId) (i : TypeInfo) (size : Nat) (ht : P.underlying t = some (.slice e)) (hi : P.info? e = some i)
    (v : Value) (n c : Nat) (xs : List Value) (hs : a.eval s = v) (hown : w.ownsRow base e size v n xs) (hx : a.eval x = .slice none 0 c)
    (h : wpList P ops Q rest (a.put o.dst v) w) : wpList P ops Q (o :: rest) a w := by
  refine wpList_plain hgd fun K hK => ?_
  have hrun := run_append_zero (P := P) (w := w) base t o.type e i size ht hi v n c xs hown
  unfold Oper.wp
  simp [execOp, ho, resolve, invoke, builtin, hs, hx, hrun, Result.andThen]
  exact hK _ _ h
theorem sCell_one (l : List Word) : ∀ u ∈ l.map sCell, u.oneCell' = true := by
  intro u hu
  obtain ⟨s, _, rfl⟩ := List.mem_map.1 hu
  rfl
theorem addr_addT (b off j : Nat) : ((⟨b, off, none⟩ : Addr).add j) = ⟨b, off + j, none⟩ := by
  unfold Addr.add; split <;> simp_all
theorem wp_append_words {ops : Array Oper} {rest : List Oper} {o : Oper} {a : Act} {Q : Exit → Act → World → Prop} (hgd : o.guard = none) (s x : Operand)
    (ho : o.op = .call { callee := .builtin .append, args := #[s, x], argTypes := #[39, 39] })
    (i : TypeInfo) (hi : Tryz.prog.info? 9 = some i) (hz : i.zero = some (.string ByteArray.empty)) (hsize : i.size = 1) (hby : i.bytes = 16)
    {w : World} {L : List (Array Obj)} {n : Nat} (D1 D2 : Word) (hs : a.eval s = .slice (some ⟨sz w.heap.size (shape L), 0, none⟩) 2 2) (nv : Value) (ns : List Word) (hx : a.eval x = nv) (hn : SRd w nv ns) (hlen : ns.length ≤ 80)
    (h : ∀ (v' : Value) (u : World), u.ownsRow w.heap.size 9 1 v' (2 + ns.length) ([D1, D2].map sCell ++ ns.map sCell) → v' ≠ .slice none 0 0 → More w u → wpList Tryz.prog ops Q rest (a.put o.dst v') (wd u [] u.drawn)) :
    wpList Tryz.prog ops Q (o :: rest) a (wd w (#[.cells #[.string (str D1), .string (str D2)] 9] :: L) n) := by
  have hm : More w (wd w (#[.cells #[.string (str D1), .string (str D2)] 9] :: L) n) := more_wd _ _ _
  have hown : (wd w (#[.cells #[.string (str D1), .string (str D2)] 9] :: L) n).ownsRow w.heap.size 9 1 (.slice (some ⟨sz w.heap.size (shape L), 0, none⟩) 2 2) 2 ([D1, D2].map sCell) :=
    ⟨rfl, .inr ⟨_, 2, #[.string (str D1), .string (str D2)], rfl, sz_le _ _, own_top w L n _, Nat.le_refl _, by decide, rfl, rfl⟩⟩
  obtain ⟨an, cn, rfl, hc1, hc2, hc3⟩ := hn.out
  have hmx : ns.length ≤ maxLen := Nat.le_trans hc1 hc2
  unfold maxLen at hmx
  cases an with
  | none =>
    obtain rfl : ns = [] := by
      by_cases hne : ns = []
      · exact hne
      · obtain ⟨b, off, hb, _⟩ := hc3 hne; cases hb
    refine wp_append_zero hgd s x 39 ho w.heap.size 9 i 1 Tryz.underlying39 hi _ 2 cn _ hs hown hx ?_
    have := h (.slice (some ⟨sz w.heap.size (shape L), 0, none⟩) 2 2) _ (by simpa using hown) (by simp) hm
    rw [wd_nil] at this
    exact this
  | some ad =>
    refine wpList_append_own _ hgd s x 39 ho w.heap.size 9 i _ 1 16 Tryz.underlying39 hi hz hsize hby rfl (by decide) _ 2 _ hs hown ad ns.length cn (ns.map sCell) hx (by simp) (fun j u hu => ?_) (sCell_one _) (by unfold maxLen; omega) (by omega) (by rw [wd_size]; exact sz_le _ _) ?_
    · rw [List.getElem?_map] at hu
      cases hj : ns[j]? with
      | none => rw [hj] at hu; cases hu
      | some y =>
        rw [hj] at hu
        cases hu
        have hne : ns ≠ [] := fun e => by rw [e] at hj; cases hj
        obtain ⟨b, off, hb, hlt, hcell⟩ := hc3 hne
        cases hb
        rw [addr_addT, hm.below.cell hlt]
        exact hcell j y hj
    · intro v' u ho' hg hv
      have hmu : More w u := more_grown (B := 0) hm hown hg
      have := h v' u ho' (fun e => by have := hv.1 e; simp at this) hmu
      rw [wd_nil] at this
      exact this
theorem join_names (D1 D2 : Word) (ns : List Word) : Lib.join (D1 :: D2 :: ns) [32] = D1 ++ [32] ++ D2 ++ namesW ns := by
  rw [Lib.join_cons]
  unfold Lib.joinTail namesW
  rw [List.map_cons, List.flatten_cons, List.flatMap_def]
  simp
theorem join_row {w u : World} {v : Value} {D1 D2 : Word} {ns : List Word} (ho : u.ownsRow w.heap.size 9 1 v (2 + ns.length) ([D1, D2].map sCell ++ ns.map sCell)) (hv : v ≠ .slice none 0 0) (hl : ns.length ≤ 80) (h1 : D1.length ≤ 20) (h2 : D2.length ≤ 20) (hs : ∀ s ∈ ns, s.length ≤ 400) (hm : More w u) :
    Calls Tryz.prog 59 #[v, .string ⟨#[32]⟩] u fun e w' => e = .returned (.string (str (D1 ++ [32] ++ D2 ++ namesW ns))) ∧ More w w' := by
  rcases own_shape ho with ⟨rfl, _⟩ | ⟨g, cap, rfl, hn, hmx⟩
  · exact absurd rfl hv
  have e0 : ((D1 :: D2 :: ns).map str).map (fun b : ByteArray => b.data.toList) = D1 :: D2 :: ns := by
    rw [List.map_map]
    conv => rhs; rw [← List.map_id (D1 :: D2 :: ns)]
    exact List.map_congr_left (fun s _ => str_data s)
  have hj : Lib.join (((D1 :: D2 :: ns).map str).map (fun b : ByteArray => b.data.toList)) (ByteArray.mk #[32]).data.toList = D1 ++ [32] ++ D2 ++ namesW ns := by rw [e0]; exact join_names D1 D2 ns
  have hll : ((D1 :: D2 :: ns).map str).length = 2 + ns.length := by simp; omega
  have hnl := namesW_len hs
  have hjl : (D1 ++ [32] ++ D2 ++ namesW ns).length ≤ 140737488355328 := by simp; omega
  have h := Tryz.strings_Join g 0 cap ((D1 :: D2 :: ns).map str) ⟨#[32]⟩ u (fun j x hx => by
    rw [List.getElem?_map] at hx
    cases hy : (D1 :: D2 :: ns)[j]? with
    | none => rw [hy] at hx; cases hx
    | some y =>
      rw [hy] at hx
      cases hx
      rw [Nat.zero_add]
      refine own_get ho j _ ?_
      rw [← List.map_append, List.getElem?_map]
      rw [show [D1, D2] ++ ns = D1 :: D2 :: ns from rfl, hy]; rfl) (owns_lt ho) (by rw [hll]; omega) (by rw [hll]; exact hn) (by rw [hj]; exact hjl)
  rw [hll] at h
  refine h.mono ?_
  rintro e w' ⟨rfl, hb⟩
  rw [hj]
  exact ⟨rfl, hm.trans (more_of_below hb)⟩
structure RW (q : Nat) (C : Array Value) where
  u : World
  h : u.heap[q]? = some (.cells C 46 (0, 0))
theorem cls_wd (w : World) (L : List (Array Obj)) (n : Nat) : ∃ m : Ext, wd w L n = wd w [m.e] m.n := by
  obtain ⟨e, k, h⟩ := more_wd w L n
  exact ⟨⟨e, k⟩, h⟩
end Go.Proofs.YtifoekadjnlhcaaGreatDoor
