/- Law 24: Few, of one step. -/
import Derived.Test.YtmeflkagldebiaaGreatME
namespace Go.Proofs.YtmeflkagldebiaaGreat
open Go.ChangeShapes Go.WideShapes Go.ChangeAt Go.RowKit
set_option linter.unusedVariables false
set_option linter.unusedSimpArgs false
/-- A request, written out. -/
abbrev reqV (q : Req) (a : Option Addr) (cap : Nat) : Value := .agg #[.int .u8 q.kind, .string (str q.topic), .int .i64 q.index, .int .i64 q.parts, .bool q.compact, .bool q.flush, .int .i64 q.offset, .int .i64 q.most, .int .i64 q.time, .string (str q.group), .string (str q.member), .int .i64 q.gen,
  .int .i64 q.batch.base, .int .i64 q.batch.count, .int .i64 q.batch.producer, .int .i64 q.batch.epoch, .int .i64 q.batch.seq, .slice a q.batch.recs.length cap]
set_option maxRecDepth 100000 in
set_option maxHeartbeats 3200000 in
theorem lreq_any (q : Req) (a : Option Addr) (cap : Nat) (w : World) (hr : RecsAt w a q.batch.recs) (hm : q.batch.recs.length ≤ maxLen) (h1 : q.topic.length ≤ maxLen) (h2 : q.group.length ≤ maxLen) (h3 : q.member.length ≤ maxLen) :
    Calls Tryz.prog 20 #[reqV q a cap] w fun x w' => BoolRet w w' x := by
  unfold maxLen at h1 h2 h3
  have s1 := str_size q.topic
  have s2 := str_size q.group
  have s3 := str_size q.member
  have HR := Lib.hid hr
  have HB := Lib.hid (fun W h => light_bat q.batch a cap W h hm)
  clear hr hm
  obtain ⟨kind, topic, index, parts, compact, flush, offset, most, time, group, member, gen, batch⟩ := q
  obtain ⟨b0, b1, b2, b3, b4, recs⟩ := batch
  dsimp only at h1 h2 h3 s1 s2 s3 HR HB ⊢
  refine calls_wd ?_
  go_enter Tryz.func20, Tryz.ntmps20
  go_wp2_with (first | (go_at_call 46; ((with_reducible refine (HB.out _ (HR.out.more (more_wd _ _ _))).mono ?_); rintro e w2 hbr; obtain ⟨bl, rfl, x9, n9, rfl⟩ := hbr.out)))
  all_goals (go_ret; exact bret_wd _ _ _ _)
/-- 0 or 1. -/
structure FewRet (w w' : World) (x : Ending) : Prop where
  out : ∃ k : Int, (k = 0 ∨ k = 1) ∧ x = .returned (.int .i64 k) ∧ More w w'
set_option maxRecDepth 100000 in
set_option maxHeartbeats 3200000 in
theorem few_any (q : Req) (a : Option Addr) (cap b : Nat) (w : World) (hb : b < w.heap.size) (hr : RecsAt w a q.batch.recs) (hm : q.batch.recs.length ≤ maxLen) (h1 : q.topic.length ≤ maxLen) (h2 : q.group.length ≤ maxLen) (h3 : q.member.length ≤ maxLen)
    (hc : ∀ j, j < 18 → w.cell? ⟨b, j + 1, none⟩ = (reqCells q a cap)[j]?) :
    Calls Tryz.prog 4 #[.slice (some ⟨b, 0, none⟩) 1 1, .int .i64 1] w fun x w' => FewRet w w' x := by
  have HL := Lib.hid (fun W (hm' : More w W) => lreq_any q a cap W (hr.more hm') hm h1 h2 h3)
  clear hr hm h1 h2 h3
  have c0 := hc 0 (by decide)
  have c1 := hc 1 (by decide)
  have c2 := hc 2 (by decide)
  have c3 := hc 3 (by decide)
  have c4 := hc 4 (by decide)
  have c5 := hc 5 (by decide)
  have c6 := hc 6 (by decide)
  have c7 := hc 7 (by decide)
  have c8 := hc 8 (by decide)
  have c9 := hc 9 (by decide)
  have c10 := hc 10 (by decide)
  have c11 := hc 11 (by decide)
  have c12 := hc 12 (by decide)
  have c13 := hc 13 (by decide)
  have c14 := hc 14 (by decide)
  have c15 := hc 15 (by decide)
  have c16 := hc 16 (by decide)
  have c17 := hc 17 (by decide)
  clear hc
  simp only [reqCells, List.getElem?_cons_zero, List.getElem?_cons_succ, Nat.reduceAdd, Nat.zero_add] at c0 c1 c2 c3 c4 c5 c6 c7 c8 c9 c10 c11 c12 c13 c14 c15 c16 c17
  refine calls_wd ?_
  go_enter Tryz.func4, Tryz.ntmps4
  go_wp2
  go_loopw [5] (fun i wr => ∃ (k : Nat) (m : Ext), k ≤ 1 ∧ i = .int .i64 k ∧ wr = wd w [m.e] m.n) (fun i _ => 1 - (intOf i).toNat)
  case atStart => exact ⟨0, ⟨#[], _⟩, Nat.zero_le _, rfl, by rw [wd_empty]⟩
  case round =>
    obtain ⟨k, m, hk, rfl, rfl⟩ := hrel
    by_cases hlt : k < 1
    · obtain rfl : k = 0 := by omega
      go_wp2_with (first | (go_at_call 20; ((with_reducible refine (HL.out _ (more_wd _ _ _)).mono ?_); rintro e w2 hbr; obtain ⟨bl, rfl, x9, n9, rfl⟩ := hbr.out; cases bl)))
      · go_ret
        exact ⟨1, .inr rfl, rfl, more_wd _ _ _⟩
      · go_roundw
        case rel => exact ⟨1, ⟨_, _⟩, by omega, by go_num, wd_merge _ _ _ _ _⟩
        case measure => simp [intOf]
    · go_wp2
      go_ret
      exact ⟨0, .inl rfl, rfl, more_wd _ _ _⟩
end Go.Proofs.YtmeflkagldebiaaGreat
