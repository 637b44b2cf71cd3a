/- wire, plain: requests as bytes: what is laid is read. -/
import Derived.Test.YtejokhgabcldhaaME
import Derived.Laws.RangeString
import Derived.Test.YtejokhgabcldhaaMF
import Derived.Lib.OthersKept
namespace Go.Proofs.Ytejokhgabcldhaa
open Go.RowKit
set_option linter.unusedVariables false
set_option linter.unusedSimpArgs false

structure Req where
  kind : Nat
  topic : List UInt8
  index : Int
  parts : Int
  compact : Bool
  flush : Bool
  offset : Int
  most : Int
  time : Int
  group : List UInt8
  member : List UInt8
  gen : Int
  batch : Bat
def reqBlank (k : Nat) : Req := ⟨k, [], 0, 0, false, false, 0, 0, 0, [], [], 0, Bat.zero⟩
instance : Inhabited Req := ⟨reqBlank 0⟩
def reqCells (q : Req) (a : Option Addr) (cap : Nat) : List Value := [.int .u8 q.kind, .string (str q.topic), .int .i64 q.index, .int .i64 q.parts, .bool q.compact, .bool q.flush, .int .i64 q.offset, .int .i64 q.most, .int .i64 q.time, .string (str q.group), .string (str q.member), .int .i64 q.gen,
  .int .i64 q.batch.base, .int .i64 q.batch.count, .int .i64 q.batch.producer, .int .i64 q.batch.epoch, .int .i64 q.batch.seq, .slice a q.batch.recs.length cap]
theorem req_eq (x y : Req) : x = y ↔ x.kind = y.kind ∧ x.topic = y.topic ∧ x.index = y.index ∧ x.parts = y.parts ∧ x.compact = y.compact ∧ x.flush = y.flush ∧ x.offset = y.offset ∧ x.most = y.most ∧ x.time = y.time ∧ x.group = y.group ∧ x.member = y.member ∧ x.gen = y.gen ∧ x.batch = y.batch := by
  cases x; cases y; simp
instance (x y : Req) : Decidable (x = y) := decidable_of_iff _ (req_eq x y).symm
instance : DecidableEq Req := fun x y => inferInstance
/-- The letters of a kind: t 116, i 105, p 112, c 99, f 102, o 111, m 109, w 119, g 103, k 107, n 110, b 98. -/
def usesL (k : Nat) : List UInt8 :=
  if k = 0 then [116, 112, 99] else if k = 1 then [116] else if k = 2 then [116] else if k = 3 then [116, 105, 102, 98] else if k = 4 then [116, 105, 111, 109] else if k = 5 then [116, 105, 119]
  else if k = 6 then [103, 107] else if k = 7 then [116, 103, 107, 110] else if k = 8 then [103, 107, 110] else if k = 9 then [103, 107] else if k = 10 then [116, 105, 111, 103, 107, 110] else if k = 11 then [116, 105, 103] else []
def usesAll : List (List UInt8) := [[116, 112, 99], [116], [116, 105, 102, 98], [116, 105, 111, 109], [116, 105, 119], [103, 107], [116, 103, 107, 110], [103, 107, 110], [116, 105, 111, 103, 107, 110], [116, 105, 103], []]
theorem kind_cases (k : Nat) : k = 0 ∨ k = 1 ∨ k = 2 ∨ k = 3 ∨ k = 4 ∨ k = 5 ∨ k = 6 ∨ k = 7 ∨ k = 8 ∨ k = 9 ∨ k = 10 ∨ k = 11 ∨ 11 < k := by omega
theorem uses_big (k : Nat) (h : 11 < k) : usesL k = [] := by unfold usesL; simp [show k ≠ 0 by omega, show k ≠ 1 by omega, show k ≠ 2 by omega, show k ≠ 3 by omega, show k ≠ 4 by omega, show k ≠ 5 by omega, show k ≠ 6 by omega, show k ≠ 7 by omega, show k ≠ 8 by omega, show k ≠ 9 by omega, show k ≠ 10 by omega, show k ≠ 11 by omega]
theorem uses_0 : usesL 0 = [116, 112, 99] := rfl
theorem uses_1 : usesL 1 = [116] := rfl
theorem uses_2 : usesL 2 = [116] := rfl
theorem uses_3 : usesL 3 = [116, 105, 102, 98] := rfl
theorem uses_4 : usesL 4 = [116, 105, 111, 109] := rfl
theorem uses_5 : usesL 5 = [116, 105, 119] := rfl
theorem uses_6 : usesL 6 = [103, 107] := rfl
theorem uses_7 : usesL 7 = [116, 103, 107, 110] := rfl
theorem uses_8 : usesL 8 = [103, 107, 110] := rfl
theorem uses_9 : usesL 9 = [103, 107] := rfl
theorem uses_10 : usesL 10 = [116, 105, 111, 103, 107, 110] := rfl
theorem uses_11 : usesL 11 = [116, 105, 103] := rfl
theorem uses_mem (k : Nat) : usesL k ∈ usesAll := by
  rcases kind_cases k with rfl | rfl | rfl | rfl | rfl | rfl | rfl | rfl | rfl | rfl | rfl | rfl | hk
  all_goals first
    | decide
    | (rw [uses_big k hk]; decide)
theorem uses_ascii (k : Nat) : ∀ c ∈ usesL k, c.toNat < 128 := (by decide : ∀ s ∈ usesAll, ∀ c ∈ s, c.toNat < 128) _ (uses_mem k)
theorem uses_len (k : Nat) : (usesL k).length ≤ 6 := (by decide : ∀ s ∈ usesAll, s.length ≤ 6) _ (uses_mem k)
/-- A letter's field made nothing. -/
def reqZero (q : Req) (c : UInt8) : Req :=
  if c = 116 then { q with topic := [] } else if c = 105 then { q with index := 0 } else if c = 112 then { q with parts := 0 } else if c = 99 then { q with compact := false } else if c = 102 then { q with flush := false }
  else if c = 111 then { q with offset := 0 } else if c = 109 then { q with most := 0 } else if c = 119 then { q with time := 0 } else if c = 103 then { q with group := [] } else if c = 107 then { q with member := [] }
  else if c = 110 then { q with gen := 0 } else if c = 98 then { q with batch := Bat.zero } else q
def reqClean (q : Req) : Req := (usesL q.kind).foldl reqZero q
def flagB (b : Bool) : List UInt8 := if b then [1] else [0]
/-- A letter's field as bytes. -/
def reqField (q : Req) (body : List UInt8) (c : UInt8) : List UInt8 :=
  if c = 116 then textL q.topic else if c = 105 then put q.index else if c = 112 then put q.parts else if c = 99 then flagB q.compact else if c = 102 then flagB q.flush
  else if c = 111 then put q.offset else if c = 109 then put q.most else if c = 119 then put q.time else if c = 103 then textL q.group else if c = 107 then textL q.member
  else if c = 110 then put q.gen else textL body
/-- A request's bytes, and the error. -/
def reqBat (q : Req) : List UInt8 × Int := batPut { q.batch with base := 0 }
def reqBytes (q : Req) (body : List UInt8) : List UInt8 := UInt8.ofNat q.kind :: (usesL q.kind).flatMap (reqField q body)
def reqPut (q : Req) : List UInt8 × Int :=
  if 11 < q.kind then ([], 22)
  else if reqClean q ≠ reqBlank q.kind then ([], 4)
  else if 255 < max (max q.topic.length q.group.length) q.member.length then ([], 5)
  else if q.kind = 3 ∧ (reqBat q).2 ≠ 0 then ([], (reqBat q).2)
  else if q.kind = 3 ∧ q.batch.base ≠ 0 then ([], 4)
  else (reqBytes q (if q.kind = 3 then (reqBat q).1 else []), 0)
def Req.wf (q : Req) : Prop := I64 q.index ∧ I64 q.parts ∧ I64 q.offset ∧ I64 q.most ∧ I64 q.time ∧ I64 q.gen
/-- A letter's field off a reader. -/
def reqTake (most : Int) (s : List UInt8 × Int × Req) (c : UInt8) : List UInt8 × Int × Req :=
  let l := s.1
  let e := s.2.1
  let q := s.2.2
  if c = 116 then ((txt l e 255).1, (txt l e 255).2.1, { q with topic := (txt l e 255).2.2 })
  else if c = 105 then (numL l e, numE l e, { q with index := numV l e })
  else if c = 112 then (numL l e, numE l e, { q with parts := numV l e })
  else if c = 99 then (fixL l e, fixE l e, { q with compact := decide (fixV l e = 1) })
  else if c = 102 then (fixL l e, fixE l e, { q with flush := decide (fixV l e = 1) })
  else if c = 111 then (numL l e, numE l e, { q with offset := numV l e })
  else if c = 109 then (numL l e, numE l e, { q with most := numV l e })
  else if c = 119 then (numL l e, numE l e, { q with time := numV l e })
  else if c = 103 then ((txt l e 255).1, (txt l e 255).2.1, { q with group := (txt l e 255).2.2 })
  else if c = 107 then ((txt l e 255).1, (txt l e 255).2.1, { q with member := (txt l e 255).2.2 })
  else if c = 110 then (numL l e, numE l e, { q with gen := numV l e })
  else ((txt l e most).1, (txt l e most).2.1, { q with batch := (batGet (txt l e most).2.2).1 })
def reqStart (l : List UInt8) : List UInt8 × Int × Req := (fixL l 0, fixE l 0, reqBlank (fixV l 0).toNat)
def reqDec (most : Int) (l : List UInt8) : Req := ((usesL (fixV l 0).toNat).foldl (reqTake most) (reqStart l)).2.2
/-- A letter's field of one request in another. -/
def reqCopy (q r : Req) (c : UInt8) : Req :=
  if c = 116 then { r with topic := q.topic } else if c = 105 then { r with index := q.index } else if c = 112 then { r with parts := q.parts } else if c = 99 then { r with compact := q.compact } else if c = 102 then { r with flush := q.flush }
  else if c = 111 then { r with offset := q.offset } else if c = 109 then { r with most := q.most } else if c = 119 then { r with time := q.time } else if c = 103 then { r with group := q.group } else if c = 107 then { r with member := q.member }
  else if c = 110 then { r with gen := q.gen } else { r with batch := q.batch }
theorem rz_116 (q : Req) : reqZero q 116 = { q with topic := [] } := rfl
theorem rc_116 (q r : Req) : reqCopy q r 116 = { r with topic := q.topic } := rfl
theorem rz_105 (q : Req) : reqZero q 105 = { q with index := 0 } := rfl
theorem rc_105 (q r : Req) : reqCopy q r 105 = { r with index := q.index } := rfl
theorem rz_112 (q : Req) : reqZero q 112 = { q with parts := 0 } := rfl
theorem rc_112 (q r : Req) : reqCopy q r 112 = { r with parts := q.parts } := rfl
theorem rz_99 (q : Req) : reqZero q 99 = { q with compact := false } := rfl
theorem rc_99 (q r : Req) : reqCopy q r 99 = { r with compact := q.compact } := rfl
theorem rz_102 (q : Req) : reqZero q 102 = { q with flush := false } := rfl
theorem rc_102 (q r : Req) : reqCopy q r 102 = { r with flush := q.flush } := rfl
theorem rz_111 (q : Req) : reqZero q 111 = { q with offset := 0 } := rfl
theorem rc_111 (q r : Req) : reqCopy q r 111 = { r with offset := q.offset } := rfl
theorem rz_109 (q : Req) : reqZero q 109 = { q with most := 0 } := rfl
theorem rc_109 (q r : Req) : reqCopy q r 109 = { r with most := q.most } := rfl
theorem rz_119 (q : Req) : reqZero q 119 = { q with time := 0 } := rfl
theorem rc_119 (q r : Req) : reqCopy q r 119 = { r with time := q.time } := rfl
theorem rz_103 (q : Req) : reqZero q 103 = { q with group := [] } := rfl
theorem rc_103 (q r : Req) : reqCopy q r 103 = { r with group := q.group } := rfl
theorem rz_107 (q : Req) : reqZero q 107 = { q with member := [] } := rfl
theorem rc_107 (q r : Req) : reqCopy q r 107 = { r with member := q.member } := rfl
theorem rz_110 (q : Req) : reqZero q 110 = { q with gen := 0 } := rfl
theorem rc_110 (q r : Req) : reqCopy q r 110 = { r with gen := q.gen } := rfl
theorem rz_98 (q : Req) : reqZero q 98 = { q with batch := Bat.zero } := rfl
theorem rc_98 (q r : Req) : reqCopy q r 98 = { r with batch := q.batch } := rfl
theorem copy_all (q : Req) (h : reqClean q = reqBlank q.kind) : (usesL q.kind).foldl (reqCopy q) (reqBlank q.kind) = q := by
  obtain ⟨kind, topic, index, parts, compact, flush, offset, most, time, group, member, gen, batch⟩ := q
  unfold reqClean at h
  dsimp only at h ⊢
  rcases kind_cases kind with rfl | rfl | rfl | rfl | rfl | rfl | rfl | rfl | rfl | rfl | rfl | rfl | hk
  case inr.inr.inr.inr.inr.inr.inr.inr.inr.inr.inr.inr => rw [uses_big kind hk] at h ⊢; exact h.symm
  all_goals
    simp only [uses_0, uses_1, uses_2, uses_3, uses_4, uses_5, uses_6, uses_7, uses_8, uses_9, uses_10, uses_11, List.foldl_cons, List.foldl_nil, rz_116, rz_105, rz_112, rz_99, rz_102, rz_111, rz_109, rz_119, rz_103, rz_107, rz_110, rz_98, reqBlank] at h
    rw [req_eq] at h
    dsimp only at h
    obtain ⟨g0, g1, g2, g3, g4, g5, g6, g7, g8, g9, g10, g11, g12⟩ := h
    simp only [uses_0, uses_1, uses_2, uses_3, uses_4, uses_5, uses_6, uses_7, uses_8, uses_9, uses_10, uses_11, List.foldl_cons, List.foldl_nil, rc_116, rc_105, rc_112, rc_99, rc_102, rc_111, rc_109, rc_119, rc_103, rc_107, rc_110, rc_98, reqBlank]
    rw [req_eq]
    dsimp only
    refine ⟨?_, ?_, ?_, ?_, ?_, ?_, ?_, ?_, ?_, ?_, ?_, ?_, ?_⟩ <;> first | rfl | (symm; assumption)
theorem take_field (most : Int) (hm : 8192 ≤ most) (q r : Req) (body rest : List UInt8) (c : UInt8) (hw : q.wf) (ht : q.topic.length ≤ 255) (hg : q.group.length ≤ 255) (hk : q.member.length ≤ 255)
    (hb : c = 98 → batGet body = (q.batch, 0) ∧ body.length ≤ 8192) (hc : c ∈ ([116, 105, 112, 99, 102, 111, 109, 119, 103, 107, 110, 98] : List UInt8)) :
    reqTake most (reqField q body c ++ rest, 0, r) c = (rest, 0, reqCopy q r c) := by
  obtain ⟨w1, w2, w3, w4, w5, w6⟩ := hw
  have hfl : ∀ b : Bool, fixL (flagB b ++ rest) 0 = rest ∧ fixE (flagB b ++ rest) 0 = 0 ∧ decide (fixV (flagB b ++ rest) 0 = 1) = b := by
    intro b; cases b <;> exact ⟨rfl, rfl, rfl⟩
  have t1 := txt_text q.topic 255 (by omega) (by omega) rest
  have t2 := txt_text q.group 255 (by omega) (by omega) rest
  have t3 := txt_text q.member 255 (by omega) (by omega) rest
  obtain ⟨n1, n2, n3⟩ := num_put q.index w1 rest
  obtain ⟨p1, p2, p3⟩ := num_put q.parts w2 rest
  obtain ⟨o1, o2, o3⟩ := num_put q.offset w3 rest
  obtain ⟨m1, m2, m3⟩ := num_put q.most w4 rest
  obtain ⟨i1, i2, i3⟩ := num_put q.time w5 rest
  obtain ⟨g1, g2, g3⟩ := num_put q.gen w6 rest
  obtain ⟨f1, f2, f3⟩ := hfl q.compact
  obtain ⟨h1, h2, h3⟩ := hfl q.flush
  simp only [List.mem_cons, List.not_mem_nil, or_false] at hc
  rcases hc with rfl | rfl | rfl | rfl | rfl | rfl | rfl | rfl | rfl | rfl | rfl | rfl
  all_goals simp_all [reqTake, reqField, reqCopy]
  rw [txt_text body most (by omega) (by omega) rest]
  simp [hb.1]
theorem uses_letters (k : Nat) : ∀ c ∈ usesL k, c ∈ ([116, 105, 112, 99, 102, 111, 109, 119, 103, 107, 110, 98] : List UInt8) :=
  (by decide : ∀ s ∈ usesAll, ∀ c ∈ s, c ∈ ([116, 105, 112, 99, 102, 111, 109, 119, 103, 107, 110, 98] : List UInt8)) _ (uses_mem k)
theorem uses_b (k : Nat) (h : 98 ∈ usesL k) : k = 3 := by
  rcases kind_cases k with rfl | rfl | rfl | rfl | rfl | rfl | rfl | rfl | rfl | rfl | rfl | rfl | hk
  all_goals first
    | rfl
    | (rw [uses_big k hk] at h; cases h)
    | (exfalso; revert h; decide)
theorem take_all (most : Int) (hm : 8192 ≤ most) (q : Req) (body : List UInt8) (hw : q.wf) (ht : q.topic.length ≤ 255) (hg : q.group.length ≤ 255) (hk : q.member.length ≤ 255) :
    ∀ (cs : List UInt8) (r : Req), (98 ∈ cs → batGet body = (q.batch, 0) ∧ body.length ≤ 8192) → (∀ c ∈ cs, c ∈ ([116, 105, 112, 99, 102, 111, 109, 119, 103, 107, 110, 98] : List UInt8)) →
    cs.foldl (reqTake most) (cs.flatMap (reqField q body), 0, r) = ([], 0, cs.foldl (reqCopy q) r)
  | [], r, _, _ => rfl
  | c :: cs, r, hb, hc => by
    rw [List.flatMap_cons, List.foldl_cons, take_field most hm q r body _ c hw ht hg hk (fun h => hb (by rw [← h]; exact List.mem_cons_self ..)) (hc c (List.mem_cons_self ..)), List.foldl_cons]
    exact take_all most hm q body hw ht hg hk cs _ (fun h => hb (List.mem_cons_of_mem _ h)) (fun d hd => hc d (List.mem_cons_of_mem _ hd))
theorem reqPut_ok {q : Req} {l : List UInt8} (h : reqPut q = (l, 0)) : q.kind ≤ 11 ∧ reqClean q = reqBlank q.kind ∧ q.topic.length ≤ 255 ∧ q.group.length ≤ 255 ∧ q.member.length ≤ 255 ∧
    (q.kind = 3 → (reqBat q).2 = 0 ∧ q.batch.base = 0) ∧ l = reqBytes q (if q.kind = 3 then (reqBat q).1 else []) := by
  unfold reqPut at h
  split at h
  · simp at h
  · split at h
    · simp at h
    · split at h
      · simp at h
      · split at h
        · rename_i h4
          have := congrArg Prod.snd h
          exact absurd this h4.2
        · split at h
          · simp at h
          · rename_i h1 h2 h3 h4 h5
            refine ⟨by omega, ?_, by omega, by omega, by omega, fun hk => ?_, (congrArg Prod.fst h).symm⟩
            · by_cases h : reqClean q = reqBlank q.kind
              · exact h
              · exact absurd h h2
            · refine ⟨?_, ?_⟩
              · by_cases h : (reqBat q).2 = 0
                · exact h
                · exact absurd ⟨hk, h⟩ h4
              · by_cases h : q.batch.base = 0
                · exact h
                · exact absurd ⟨hk, h⟩ h5
theorem reqDec_put (most : Int) (hm : 8192 ≤ most) {q : Req} {l : List UInt8} (hw : q.wf) (h : reqPut q = (l, 0)) : reqDec most l = q := by
  obtain ⟨h1, h2, h3, h4, h5, h6, rfl⟩ := reqPut_ok h
  unfold reqDec reqStart reqBytes
  obtain ⟨f1, f2, f3⟩ := fix_cons (UInt8.ofNat q.kind) ((usesL q.kind).flatMap (reqField q (if q.kind = 3 then (reqBat q).1 else [])))
  rw [f1, f2, f3, u8_toNat _ (by omega), Int.toNat_natCast, take_all most hm q _ hw h3 h4 h5 _ _ (fun hb => ?_) (uses_letters _)]
  · exact copy_all q h2
  · have hk := uses_b _ hb
    obtain ⟨e1, e2⟩ := h6 hk
    rw [if_pos hk]
    have hp : batPut q.batch = ((reqBat q).1, 0) := by
      have : ({ q.batch with base := 0 } : Bat) = q.batch := by rw [bat_eq]; simp [e2]
      unfold reqBat at e1 ⊢
      rw [this] at e1 ⊢
      exact Prod.ext rfl e1
    exact ⟨batGet_put hp, by have := (bat_facts hp).1; omega⟩
/-- A request off bytes, and the error. -/
def reqGet (l : List UInt8) : Req × Int := if reqPut (reqDec 8192 l) = (l, 0) then (reqDec 8192 l, 0) else (reqBlank 0, 4)
end Go.Proofs.Ytejokhgabcldhaa
/- Plain: what is read of any bytes is a request that may be laid. -/
namespace Go.Proofs.Ytejokhgabcldhaa
open Go.ChangeShapes Go.WideShapes Go.ChangeAt Go.RowKit
set_option linter.unusedVariables false
set_option linter.unusedSimpArgs false

theorem zag_i64 (u : Nat) (h : u < 18446744073709551616) : I64 (zag u) := by
  unfold zag I64
  split <;> omega
theorem getN_i64 (l : List UInt8) : I64 (getN l).1 := by
  unfold getN
  split
  · exact ⟨by decide, by decide⟩
  · split
    · exact ⟨by decide, by decide⟩
    · split
      · exact zag_i64 _ (Nat.mod_lt _ (by decide))
      · exact ⟨by decide, by decide⟩
theorem numV_i64 (l : List UInt8) (e : Int) : I64 (numV l e) := by
  unfold numV
  split
  · exact getN_i64 l
  · exact ⟨by decide, by decide⟩
theorem fixV_range (l : List UInt8) (e : Int) : 0 ≤ fixV l e ∧ fixV l e < 256 := by
  unfold fixV
  split
  · cases l with
    | nil => exact ⟨by decide, by decide⟩
    | cons b r => exact ⟨by simp, by have := b.toNat_lt; simp; omega⟩
  · exact ⟨by decide, by decide⟩
theorem txt_len (l : List UInt8) (e most : Int) (hm : 0 ≤ most) : ((txt l e most).2.2.length : Int) ≤ most := by
  unfold txt
  split
  · simpa using hm
  · split
    · simpa using hm
    · split
      · simpa using hm
      · simp only [List.length_take]; omega
theorem batN_le (l : List UInt8) : batN l ≤ 32 := by unfold batN; omega
theorem batGet_len (l : List UInt8) : (batGet l).1.recs.length ≤ 32 := by
  unfold batGet
  split
  · show (recsOf _ _ _).length ≤ 32
    rw [recsOf_len]; exact batN_le l
  · exact Nat.zero_le _
/-- A request that may be laid. -/
structure ReqOk (q : Req) : Prop where
  wf : q.wf
  t : q.topic.length ≤ 255
  g : q.group.length ≤ 255
  m : q.member.length ≤ 255
  r : q.batch.recs.length ≤ 32
theorem reqTake_eq (most : Int) (l : List UInt8) (e : Int) (q : Req) (c : UInt8) : reqTake most (l, e, q) c =
  if c = 116 then ((txt l e 255).1, (txt l e 255).2.1, { q with topic := (txt l e 255).2.2 })
  else if c = 105 then (numL l e, numE l e, { q with index := numV l e })
  else if c = 112 then (numL l e, numE l e, { q with parts := numV l e })
  else if c = 99 then (fixL l e, fixE l e, { q with compact := decide (fixV l e = 1) })
  else if c = 102 then (fixL l e, fixE l e, { q with flush := decide (fixV l e = 1) })
  else if c = 111 then (numL l e, numE l e, { q with offset := numV l e })
  else if c = 109 then (numL l e, numE l e, { q with most := numV l e })
  else if c = 119 then (numL l e, numE l e, { q with time := numV l e })
  else if c = 103 then ((txt l e 255).1, (txt l e 255).2.1, { q with group := (txt l e 255).2.2 })
  else if c = 107 then ((txt l e 255).1, (txt l e 255).2.1, { q with member := (txt l e 255).2.2 })
  else if c = 110 then (numL l e, numE l e, { q with gen := numV l e })
  else ((txt l e most).1, (txt l e most).2.1, { q with batch := (batGet (txt l e most).2.2).1 }) := rfl
theorem ite_snd {α : Type} (P : α → Prop) (C : Prop) [Decidable C] (a b : α) (ha : P a) (hb : P b) : P (if C then a else b) := by split <;> assumption
theorem reqTake_ok (most : Int) (hm : 0 ≤ most) (l : List UInt8) (e : Int) (q : Req) (c : UInt8) (h : ReqOk q) : ReqOk (reqTake most (l, e, q) c).2.2 := by
  obtain ⟨⟨w1, w2, w3, w4, w5, w6⟩, ht, hg, hmm, hr⟩ := h
  have n := numV_i64 l e
  have s : (txt l e 255).2.2.length ≤ 255 := by have := txt_len l e 255 (by decide); omega
  have b := batGet_len (txt l e most).2.2
  rw [reqTake_eq]
  generalize (batGet (txt l e most).2.2).1 = B at b ⊢
  generalize numV l e = N at n ⊢
  generalize (txt l e 255).2.2 = T at s ⊢
  generalize decide (fixV l e = 1) = D
  refine ite_snd (fun x : List UInt8 × Int × Req => ReqOk x.2.2) _ _ _ ⟨⟨w1, w2, w3, w4, w5, w6⟩, s, hg, hmm, hr⟩ ?_
  refine ite_snd (fun x : List UInt8 × Int × Req => ReqOk x.2.2) _ _ _ ⟨⟨n, w2, w3, w4, w5, w6⟩, ht, hg, hmm, hr⟩ ?_
  refine ite_snd (fun x : List UInt8 × Int × Req => ReqOk x.2.2) _ _ _ ⟨⟨w1, n, w3, w4, w5, w6⟩, ht, hg, hmm, hr⟩ ?_
  refine ite_snd (fun x : List UInt8 × Int × Req => ReqOk x.2.2) _ _ _ ⟨⟨w1, w2, w3, w4, w5, w6⟩, ht, hg, hmm, hr⟩ ?_
  refine ite_snd (fun x : List UInt8 × Int × Req => ReqOk x.2.2) _ _ _ ⟨⟨w1, w2, w3, w4, w5, w6⟩, ht, hg, hmm, hr⟩ ?_
  refine ite_snd (fun x : List UInt8 × Int × Req => ReqOk x.2.2) _ _ _ ⟨⟨w1, w2, n, w4, w5, w6⟩, ht, hg, hmm, hr⟩ ?_
  refine ite_snd (fun x : List UInt8 × Int × Req => ReqOk x.2.2) _ _ _ ⟨⟨w1, w2, w3, n, w5, w6⟩, ht, hg, hmm, hr⟩ ?_
  refine ite_snd (fun x : List UInt8 × Int × Req => ReqOk x.2.2) _ _ _ ⟨⟨w1, w2, w3, w4, n, w6⟩, ht, hg, hmm, hr⟩ ?_
  refine ite_snd (fun x : List UInt8 × Int × Req => ReqOk x.2.2) _ _ _ ⟨⟨w1, w2, w3, w4, w5, w6⟩, ht, s, hmm, hr⟩ ?_
  refine ite_snd (fun x : List UInt8 × Int × Req => ReqOk x.2.2) _ _ _ ⟨⟨w1, w2, w3, w4, w5, w6⟩, ht, hg, s, hr⟩ ?_
  refine ite_snd (fun x : List UInt8 × Int × Req => ReqOk x.2.2) _ _ _ ⟨⟨w1, w2, w3, w4, w5, n⟩, ht, hg, hmm, hr⟩ ?_
  exact ⟨⟨w1, w2, w3, w4, w5, w6⟩, ht, hg, hmm, b⟩
theorem reqTake_kind (most : Int) (s : List UInt8 × Int × Req) (c : UInt8) : (reqTake most s c).2.2.kind = s.2.2.kind := by
  obtain ⟨l, e, q⟩ := s
  rw [reqTake_eq]
  repeat refine ite_snd (fun x : List UInt8 × Int × Req => x.2.2.kind = q.kind) _ _ _ rfl ?_
  rfl
theorem takes_ok (most : Int) (hm : 0 ≤ most) (cs : List UInt8) : ∀ s : List UInt8 × Int × Req, ReqOk s.2.2 → ReqOk (cs.foldl (reqTake most) s).2.2 := by
  induction cs with
  | nil => intro s h; exact h
  | cons c cs ih => intro s h; rw [List.foldl_cons]; exact ih _ (reqTake_ok most hm s.1 s.2.1 s.2.2 c h)
theorem takes_kind (most : Int) (cs : List UInt8) : ∀ s : List UInt8 × Int × Req, (cs.foldl (reqTake most) s).2.2.kind = s.2.2.kind := by
  induction cs with
  | nil => intro s; rfl
  | cons c cs ih => intro s; rw [List.foldl_cons, ih, reqTake_kind]
theorem reqStart_ok (l : List UInt8) : ReqOk (reqStart l).2.2 := by
  unfold reqStart reqBlank
  refine ⟨⟨?_, ?_, ?_, ?_, ?_, ?_⟩, Nat.zero_le _, Nat.zero_le _, Nat.zero_le _, Nat.zero_le _⟩ <;> exact ⟨by dsimp only; omega, by dsimp only; omega⟩
theorem reqDec_ok (most : Int) (hm : 0 ≤ most) (l : List UInt8) : ReqOk (reqDec most l) := takes_ok most hm _ _ (reqStart_ok l)
theorem reqDec_kind (most : Int) (l : List UInt8) : (reqDec most l).kind = (fixV l 0).toNat := takes_kind most _ _
theorem reqDec_small (most : Int) (l : List UInt8) : (reqDec most l).kind < 256 := by
  rw [reqDec_kind]
  have := fixV_range l 0
  omega
/-- The same is read, however long a text may be. -/
theorem reqGet_of (most : Int) (hm : 8192 ≤ most) (l : List UInt8) : (if reqPut (reqDec most l) = (l, 0) then (reqDec most l, 0) else (reqBlank 0, 4)) = reqGet l := by
  unfold reqGet
  by_cases h : reqPut (reqDec most l) = (l, 0)
  · have h8 := reqDec_put 8192 (Int.le_refl _) (reqDec_ok most (by omega) l).wf h
    rw [if_pos h, h8, if_pos h]
  · rw [if_neg h]
    by_cases h2 : reqPut (reqDec 8192 l) = (l, 0)
    · have h8 := reqDec_put most hm (reqDec_ok 8192 (by decide) l).wf h2
      rw [h8] at h
      exact absurd h2 h
    · rw [if_neg h2]
end Go.Proofs.Ytejokhgabcldhaa
/- wire: does a text have a letter? -/
namespace Go.Proofs.Ytejokhgabcldhaa
open Go.ChangeShapes Go.WideShapes Go.ChangeAt Go.RowKit
set_option linter.unusedVariables false
set_option linter.unusedSimpArgs false

theorem at_letter {P : Program} (t : TypeId) (cs : List UInt8) (k : IntKind) (i : Nat) (x : UInt8) (hx : cs[i]? = some x) (h : P.underlying t = some .string) (w : World) : (Instr.index t (.string (str cs)) (.int k (i : Nat))).run P w = .ok (.int .u8 x.toNat) w := by
  obtain ⟨hi, hv⟩ := List.getElem?_eq_some_iff.1 hx
  have hs : (str cs).size = cs.length := str_size cs
  rw [run_index_string w t (str cs) k (i : Nat) h, dif_pos ⟨by omega, by rw [hs]; omega⟩]
  subst hv
  rfl
theorem has_step (cs : List UInt8) (c : UInt8) (k : Nat) (x : UInt8) (hx : cs[k]? = some x) (h : c ∉ cs.take k) (hne : x ≠ c) : c ∉ cs.take (k + 1) := by
  rw [List.take_add_one, hx]
  simp only [Option.toList, List.mem_append, List.mem_singleton, not_or]
  exact ⟨h, fun h => hne h.symm⟩
set_option maxRecDepth 100000 in
set_option maxHeartbeats 1600000 in
theorem has_any (cs : List UInt8) (c : UInt8) (n : Int) (b : Bool) (hn : (c.toNat : Int) = n) (hb : decide (c ∈ cs) = b) (hl : cs.length ≤ 1099511627776) (w : World) : Calls Try.prog 135 #[.string (str cs), .int .u8 n] w fun e w' => e = .returned (.bool b) ∧ w = w' := by
  subst hn hb
  have hsz := str_size cs
  go_enter Try.func135, Try.ntmps135
  go_wp2
  go_loopw [5] (fun i wr => ∃ k : Nat, i = .int .i64 k ∧ k ≤ cs.length ∧ Hid (c ∉ cs.take k) ∧ wr = w) (fun i _ => cs.length - (intOf i).toNat)
  case atStart => exact ⟨0, rfl, Nat.zero_le _, Lib.hid (by simp), rfl⟩
  case round =>
    obtain ⟨k, rfl, hk, HN, rfl⟩ := hrel
    by_cases hlt : k < cs.length
    · obtain ⟨x, hx⟩ : ∃ x, cs[k]? = some x := ⟨_, List.getElem?_eq_getElem hlt⟩
      have hix := fun (t : TypeId) (kd : IntKind) h W => at_letter (P := Try.prog) t cs kd k x hx h W
      have HX := Lib.hid hx
      clear hx
      by_cases hxc : x = c
      · have HM : Hid (decide (c ∈ cs) = true) := Lib.hid (decide_eq_true (by rw [← hxc]; exact List.mem_of_getElem? HX.out))
        have he : ((x.toNat : Int) == (c.toNat : Int)) = true := by rw [hxc]; simp
        go_wp2
        go_ret
        exact ⟨by rw [HM.out]; rfl, rfl⟩
      · have he : ((x.toNat : Int) == (c.toNat : Int)) = false := by
          rw [beq_eq_false_iff_ne]
          intro h
          exact hxc (UInt8.toNat_inj.1 (by omega))
        go_wp2
        go_roundw
        case rel => exact ⟨k + 1, by go_num, by omega, Lib.hid (has_step cs c k x HX.out HN.out hxc), trivial⟩
        case measure => simp [intOf]; omega
    · have hke : k = cs.length := by omega
      have HM : Hid (decide (c ∈ cs) = false) := Lib.hid (decide_eq_false (by have := HN.out; rw [hke, List.take_length] at this; exact this))
      go_wp2
      go_ret
      exact ⟨by rw [HM.out]; rfl, rfl⟩
end Go.Proofs.Ytejokhgabcldhaa
/- wire: the letters of a kind. -/
namespace Go.Proofs.Ytejokhgabcldhaa
open Go.ChangeShapes Go.WideShapes Go.ChangeAt Go.RowKit
set_option linter.unusedVariables false
set_option linter.unusedSimpArgs false


set_option maxRecDepth 100000 in
set_option maxHeartbeats 3200000 in
theorem uses_any (k : Nat) (hk : k < 256) (w : World) : Calls Try.prog 97 #[.int .u8 (k : Nat)] w fun e w' => e = .returned (.string (str (usesL k))) ∧ More w w' := by
  rcases kind_cases k with rfl | rfl | rfl | rfl | rfl | rfl | rfl | rfl | rfl | rfl | rfl | rfl | h
  case inr.inr.inr.inr.inr.inr.inr.inr.inr.inr.inr.inr =>
    have hu := Lib.hid (uses_big k h)
    have h12 : (12 : Int) ≤ (k : Int) := by omega
    refine calls_wd ?_
    go_enter Try.func97, Try.ntmps97
    go_wp2
    go_ret
    exact ⟨by rw [hu.out]; rfl, more_wd _ _ _⟩
  all_goals
    refine calls_wd ?_
    go_enter Try.func97, Try.ntmps97
    go_wp2
    go_ret
    exact ⟨rfl, more_wd _ _ _⟩
set_option maxRecDepth 100000 in
set_option maxHeartbeats 3200000 in
theorem ruses_any (k : Nat) (hk : k < 256) (w : World) : Calls Try.prog 103 #[.int .u8 (k : Nat)] w fun e w' => e = .returned (.string (str (usesL k))) ∧ w = w' := by
  rcases kind_cases k with rfl | rfl | rfl | rfl | rfl | rfl | rfl | rfl | rfl | rfl | rfl | rfl | h
  case inr.inr.inr.inr.inr.inr.inr.inr.inr.inr.inr.inr =>
    have hu := Lib.hid (uses_big k h)
    have n0 : ((k : Int) == 0) = false := by rw [beq_eq_false_iff_ne]; omega
    have n1 : ((k : Int) == 1) = false := by rw [beq_eq_false_iff_ne]; omega
    have n2 : ((k : Int) == 2) = false := by rw [beq_eq_false_iff_ne]; omega
    have n3 : ((k : Int) == 3) = false := by rw [beq_eq_false_iff_ne]; omega
    have n4 : ((k : Int) == 4) = false := by rw [beq_eq_false_iff_ne]; omega
    have n5 : ((k : Int) == 5) = false := by rw [beq_eq_false_iff_ne]; omega
    have n6 : ((k : Int) == 6) = false := by rw [beq_eq_false_iff_ne]; omega
    have n7 : ((k : Int) == 7) = false := by rw [beq_eq_false_iff_ne]; omega
    have n8 : ((k : Int) == 8) = false := by rw [beq_eq_false_iff_ne]; omega
    have n9 : ((k : Int) == 9) = false := by rw [beq_eq_false_iff_ne]; omega
    have n10 : ((k : Int) == 10) = false := by rw [beq_eq_false_iff_ne]; omega
    have n11 : ((k : Int) == 11) = false := by rw [beq_eq_false_iff_ne]; omega
    go_enter Try.func103, Try.ntmps103
    go_wp2
    go_ret
    exact ⟨by rw [hu.out]; rfl, rfl⟩
  all_goals
    go_enter Try.func103, Try.ntmps103
    go_wp2
    go_ret
    exact ⟨rfl, rfl⟩
end Go.Proofs.Ytejokhgabcldhaa
/- wire: a block written whole; a text's iterator; zero, flag, field. -/
namespace Go.Proofs.Ytejokhgabcldhaa
open Go.ChangeShapes Go.WideShapes Go.ChangeAt Go.RowKit
set_option linter.unusedVariables false
set_option linter.unusedSimpArgs false

/-- The world with the block k made o. -/
def bset (w : World) (k : Nat) (o : Obj) : World := { w with heap := w.heap.setIfInBounds k o }
theorem bset_eq_modify (a : Array Obj) (k : Nat) (o : Obj) : a.setIfInBounds k o = a.modify k (fun _ => o) := by
  apply Array.ext_getElem?
  intro j
  rw [Array.getElem?_modify, Array.getElem?_setIfInBounds]
  by_cases h : k = j
  · subst h
    simp only [if_true]
    by_cases hk : k < a.size
    · simp [hk]
    · simp [hk]
  · simp [h]
theorem setCell_bset {w : World} {p : Nat} {C : Array Value} {t : TypeId} {fr : Nat × Nat} (h : w.heap[p]? = some (.cells C t fr)) (i : Nat) (v : Value) : w.setCell ⟨p, i, none⟩ v = bset w p (.cells (C.setIfInBounds i v) t fr) := by
  refine world_ext ?_ rfl rfl rfl rfl
  simp only [World.setCell, bset]
  rw [bset_eq_modify]
  apply Array.ext_getElem?
  intro j
  rw [Array.getElem?_modify, Array.getElem?_modify]
  by_cases hj : p = j
  · subst hj; simp [h]
  · simp [hj]
theorem bset_at {w : World} {p : Nat} (h : p < w.heap.size) (o : Obj) : (bset w p o).heap[p]? = some o := by simp [bset, h]
theorem bset_other (w : World) (p b : Nat) (o : Obj) (h : b ≠ p) : (bset w p o).heap[b]? = w.heap[b]? := by simp [bset, Array.getElem?_setIfInBounds, Ne.symm h]
@[go_sem] theorem bset_size (w : World) (p : Nat) (o : Obj) : (bset w p o).heap.size = w.heap.size := by simp [bset]
@[go_sem] theorem bset_drawn (w : World) (p : Nat) (o : Obj) : (bset w p o).drawn = w.drawn := rfl
@[go_sem] theorem bset_bset (w : World) (p : Nat) (o o' : Obj) : bset (bset w p o) p o' = bset w p o' := by
  refine world_ext ?_ rfl rfl rfl rfl
  simp [bset, Array.setIfInBounds_setIfInBounds]
@[go_sem] theorem bset_wd_old (w : World) (L : List (Array Obj)) (n p : Nat) (o : Obj) (hlt : p < w.heap.size) : bset (wd w L n) p o = wd (bset w p o) L n := by
  refine world_ext ?_ rfl rfl rfl rfl
  show (hp w.heap L).setIfInBounds p o = hp (w.heap.setIfInBounds p o) L
  rw [bset_eq_modify, bset_eq_modify, hp_modify _ _ _ hlt]
@[go_sem] theorem bset_wd (w : World) (L : List (Array Obj)) (n B : Nat) (S : List Nat) (o o' : Obj) (hB : B = w.heap.size) (hS : shape L = S) : bset (wd w (#[o] :: L) n) (sz B S) o' = wd w (#[o'] :: L) n := by
  subst hB hS
  refine world_ext ?_ rfl rfl rfl rfl
  show (hp w.heap L ++ #[o]).setIfInBounds _ o' = hp w.heap L ++ #[o']
  rw [bset_eq_modify, modify_last _ _ _ _ (hp_size _ _).symm]
@[go_sem] theorem bset_wd_past (w : World) (L : List (Array Obj)) (n B : Nat) (S : List Nat) (s : Array Obj) (o : Obj) (hB : B = w.heap.size) (hS : inn S (shape L)) : bset (wd w (s :: L) n) (sz B S) o = onTop s (bset (wd w L n) (sz B S) o) := by
  subst hB
  refine world_ext ?_ rfl rfl rfl rfl
  show (hp w.heap L ++ s).setIfInBounds _ o = (hp w.heap L).setIfInBounds _ o ++ s
  rw [bset_eq_modify, bset_eq_modify, modify_append _ _ _ _ (by rw [hp_size]; exact inn_lt _ hS)]
@[go_sem] theorem bset_plus (w : World) (x : Array Obj) (n p : Nat) (o : Obj) (hp : p < w.heap.size) : bset (plus w x n) p o = plus (bset w p o) x n := by
  refine world_ext ?_ rfl rfl rfl rfl
  show (w.heap ++ x).setIfInBounds p o = w.heap.setIfInBounds p o ++ x
  rw [bset_eq_modify, bset_eq_modify, modify_append _ _ _ _ hp]
/-! ### a text's iterator -/
@[go_sem] theorem wd_iter (w : World) (L : List (Array Obj)) (n : Nat) (s : ByteArray) (p : Nat) : (wd w L n).iter s p = wd w (#[.stringIter s p] :: L) n := wd_alloc w L n _
theorem str_at (cs : List UInt8) (k : Nat) (c : UInt8) (h : cs[k]? = some c) : ∃ hk : k < (str cs).size, (str cs)[k] = c := by
  obtain ⟨hk, hc⟩ := List.getElem?_eq_some_iff.1 h
  refine ⟨by rw [str_size]; exact hk, ?_⟩
  rw [← hc]; rfl
theorem iterAt_bset (w : World) (k : Nat) (s : ByteArray) (p : Nat) : w.iterAt k s p = bset w k (.stringIter s p) := rfl
theorem next_yes (W : World) (b k : Nat) (cs : List UInt8) (c : UInt8) (ty : TypeId) (hb : W.heap[b]? = some (.stringIter (str cs) k)) (h : cs[k]? = some c) (hc : c.toNat < 128) :
    (Instr.next (.pointer (some ⟨b, 0, none⟩)) true ty).run Try.prog W = .ok (.tuple #[.bool true, .int .i64 k, .int .i32 c.toNat]) (bset W b (.stringIter (str cs) (k + 1))) := by
  obtain ⟨hk, he⟩ := str_at cs k c h
  rw [Lib.run_next_ascii_at W b (str cs) k ty hb hk (by rw [he]; exact hc), he]
  rfl
theorem next_no (W : World) (b k : Nat) (cs : List UInt8) (ty : TypeId) (hb : W.heap[b]? = some (.stringIter (str cs) k)) (h : cs.length ≤ k) :
    (Instr.next (.pointer (some ⟨b, 0, none⟩)) true ty).run Try.prog W = .ok (.tuple #[.bool false]) W :=
  Lib.run_next_end_at W b (str cs) k ty hb (by rw [str_size]; omega)
theorem bset_setCell {w : World} {p : Nat} {C : Array Value} {t : TypeId} {fr : Nat × Nat} (h : p < w.heap.size) (i : Nat) (v : Value) : (bset w p (.cells C t fr)).setCell ⟨p, i, none⟩ v = bset w p (.cells (C.setIfInBounds i v) t fr) := by
  rw [setCell_bset (bset_at h _), bset_bset]
/-! ### zero -/
def zA (c : UInt8) (a : Option Addr) : Option Addr := if c = 98 then none else a
def zC (c : UInt8) (cap : Nat) : Nat := if c = 98 then 0 else cap
/-- A request's block. -/
abbrev qob (q : Req) (a : Option Addr) (cap : Nat) : Obj := .cells (reqCells q a cap).toArray 27
def letters : List UInt8 := [116, 105, 112, 99, 102, 111, 109, 119, 103, 107, 110, 98]
set_option maxRecDepth 100000 in
set_option maxHeartbeats 6400000 in
theorem zero_any (q : Req) (a : Option Addr) (cap p : Nat) (c : UInt8) (hc : c ∈ letters) (w : World) (hq : w.heap[p]? = some (qob q a cap)) : Calls Try.prog 133 #[.pointer (some ⟨p, 0, none⟩), .int .i32 c.toNat] w fun x w' =>
    x = .returned (.tuple #[]) ∧ w' = bset w p (qob (reqZero q c) (zA c a) (zC c cap)) := by
  have HQ := Lib.hid hq
  have hlt : p < w.heap.size := (Array.getElem?_eq_some_iff.1 hq).1
  have hcell : ∀ i v, (reqCells q a cap)[i]? = some v → w.cell? ⟨p, i, none⟩ = some v := fun i v h => by simp [World.cell?, hq, h]
  have hfr : ∀ i, w.frozen? ⟨p, i, none⟩ = false := fun i => by simp [World.frozen?, hq]
  have HB := Lib.hid (fun i v => setCell_bset hq i v)
  have HC := Lib.hid hcell
  have HF := Lib.hid hfr
  clear hq hcell hfr
  simp only [letters, List.mem_cons, List.not_mem_nil, or_false] at hc
  have d1 := HC.out 1 _ rfl
  have f1 := HF.out 1
  have d2 := HC.out 2 _ rfl
  have f2 := HF.out 2
  have d3 := HC.out 3 _ rfl
  have f3 := HF.out 3
  have d4 := HC.out 4 _ rfl
  have f4 := HF.out 4
  have d5 := HC.out 5 _ rfl
  have f5 := HF.out 5
  have d6 := HC.out 6 _ rfl
  have f6 := HF.out 6
  have d7 := HC.out 7 _ rfl
  have f7 := HF.out 7
  have d8 := HC.out 8 _ rfl
  have f8 := HF.out 8
  have d9 := HC.out 9 _ rfl
  have f9 := HF.out 9
  have d10 := HC.out 10 _ rfl
  have f10 := HF.out 10
  have d11 := HC.out 11 _ rfl
  have f11 := HF.out 11
  have d12 := HC.out 12 _ rfl
  have f12 := HF.out 12
  have d13 := HC.out 13 _ rfl
  have f13 := HF.out 13
  have d14 := HC.out 14 _ rfl
  have f14 := HF.out 14
  have d15 := HC.out 15 _ rfl
  have f15 := HF.out 15
  have d16 := HC.out 16 _ rfl
  have f16 := HF.out 16
  have d17 := HC.out 17 _ rfl
  have f17 := HF.out 17
  rcases hc with rfl | rfl | rfl | rfl | rfl | rfl | rfl | rfl | rfl | rfl | rfl | rfl
  · clear d2 f2 d3 f3 d4 f4 d5 f5 d6 f6 d7 f7 d8 f8 d9 f9 d10 f10 d11 f11 d12 f12 d13 f13 d14 f14 d15 f15 d16 f16 d17 f17
    go_enter Try.func133, Try.ntmps133
    go_wp2
    go_end0
    exact ⟨rfl, HB.out 1 _⟩
  · clear d1 f1 d3 f3 d4 f4 d5 f5 d6 f6 d7 f7 d8 f8 d9 f9 d10 f10 d11 f11 d12 f12 d13 f13 d14 f14 d15 f15 d16 f16 d17 f17
    go_enter Try.func133, Try.ntmps133
    go_wp2
    go_end0
    exact ⟨rfl, HB.out 2 _⟩
  · clear d1 f1 d2 f2 d4 f4 d5 f5 d6 f6 d7 f7 d8 f8 d9 f9 d10 f10 d11 f11 d12 f12 d13 f13 d14 f14 d15 f15 d16 f16 d17 f17
    go_enter Try.func133, Try.ntmps133
    go_wp2
    go_end0
    exact ⟨rfl, HB.out 3 _⟩
  · clear d1 f1 d2 f2 d3 f3 d5 f5 d6 f6 d7 f7 d8 f8 d9 f9 d10 f10 d11 f11 d12 f12 d13 f13 d14 f14 d15 f15 d16 f16 d17 f17
    go_enter Try.func133, Try.ntmps133
    go_wp2
    go_end0
    exact ⟨rfl, HB.out 4 _⟩
  · clear d1 f1 d2 f2 d3 f3 d4 f4 d6 f6 d7 f7 d8 f8 d9 f9 d10 f10 d11 f11 d12 f12 d13 f13 d14 f14 d15 f15 d16 f16 d17 f17
    go_enter Try.func133, Try.ntmps133
    go_wp2
    go_end0
    exact ⟨rfl, HB.out 5 _⟩
  · clear d1 f1 d2 f2 d3 f3 d4 f4 d5 f5 d7 f7 d8 f8 d9 f9 d10 f10 d11 f11 d12 f12 d13 f13 d14 f14 d15 f15 d16 f16 d17 f17
    go_enter Try.func133, Try.ntmps133
    go_wp2
    go_end0
    exact ⟨rfl, HB.out 6 _⟩
  · clear d1 f1 d2 f2 d3 f3 d4 f4 d5 f5 d6 f6 d8 f8 d9 f9 d10 f10 d11 f11 d12 f12 d13 f13 d14 f14 d15 f15 d16 f16 d17 f17
    go_enter Try.func133, Try.ntmps133
    go_wp2
    go_end0
    exact ⟨rfl, HB.out 7 _⟩
  · clear d1 f1 d2 f2 d3 f3 d4 f4 d5 f5 d6 f6 d7 f7 d9 f9 d10 f10 d11 f11 d12 f12 d13 f13 d14 f14 d15 f15 d16 f16 d17 f17
    go_enter Try.func133, Try.ntmps133
    go_wp2
    go_end0
    exact ⟨rfl, HB.out 8 _⟩
  · clear d1 f1 d2 f2 d3 f3 d4 f4 d5 f5 d6 f6 d7 f7 d8 f8 d10 f10 d11 f11 d12 f12 d13 f13 d14 f14 d15 f15 d16 f16 d17 f17
    go_enter Try.func133, Try.ntmps133
    go_wp2
    go_end0
    exact ⟨rfl, HB.out 9 _⟩
  · clear d1 f1 d2 f2 d3 f3 d4 f4 d5 f5 d6 f6 d7 f7 d8 f8 d9 f9 d11 f11 d12 f12 d13 f13 d14 f14 d15 f15 d16 f16 d17 f17
    go_enter Try.func133, Try.ntmps133
    go_wp2
    go_end0
    exact ⟨rfl, HB.out 10 _⟩
  · clear d1 f1 d2 f2 d3 f3 d4 f4 d5 f5 d6 f6 d7 f7 d8 f8 d9 f9 d10 f10 d12 f12 d13 f13 d14 f14 d15 f15 d16 f16 d17 f17
    go_enter Try.func133, Try.ntmps133
    go_wp2
    go_end0
    exact ⟨rfl, HB.out 11 _⟩
  · clear d1 f1 d2 f2 d3 f3 d4 f4 d5 f5 d6 f6 d7 f7 d8 f8 d9 f9 d10 f10 d11 f11
    go_enter Try.func133, Try.ntmps133
    go_wp2
    go_end0
    refine ⟨rfl, ?_⟩
    rw [HB.out, bset_setCell hlt, bset_setCell hlt, bset_setCell hlt, bset_setCell hlt, bset_setCell hlt]
    rfl
/-! ### flag, field -/
set_option maxHeartbeats 800000 in
theorem flag_any (b : Bool) (w : World) : Calls Try.prog 134 #[.bool b] w fun e w' => ∃ v, e = .returned v ∧ BMade w w' v (flagB b) := by
  cases b
  · refine calls_wd ?_
    go_enter Try.func134, Try.ntmps134
    go_wp2
    go_ret
    exact ⟨_, rfl, bmade_of (brow_lit w [] _ 0 rfl)⟩
  · refine calls_wd ?_
    go_enter Try.func134, Try.ntmps134
    go_wp2
    go_ret
    exact ⟨_, rfl, bmade_of (brow_lit w [] _ 1 rfl)⟩
set_option maxHeartbeats 800000 in
theorem rflag_any (b : Bool) (w : World) : Calls Try.prog 104 #[.bool b] w fun e w' => ∃ v, e = .returned v ∧ BMade w w' v (flagB b) := by
  cases b
  · refine calls_wd ?_
    go_enter Try.func104, Try.ntmps104
    go_wp2
    go_ret
    exact ⟨_, rfl, bmade_of (brow_lit w [] _ 0 rfl)⟩
  · refine calls_wd ?_
    go_enter Try.func104, Try.ntmps104
    go_wp2
    go_ret
    exact ⟨_, rfl, bmade_of (brow_lit w [] _ 1 rfl)⟩
theorem fin2 {w : World} {m d : Array Obj} {n : Nat} {v : Value} {l l' : List UInt8} (h : BRow w [d] m v l) (hl : l = l') : BMade w (wd w [m, d] n) v l' := by subst hl; exact bmade_of2 h
set_option maxRecDepth 100000 in
set_option maxHeartbeats 6400000 in
theorem field_any (xk : Nat) (xtp : List UInt8) (xix xpa : Int) (xco xfl : Bool) (xof xmo xti : Int) (xgr xme : List UInt8) (xge xb0 xb1 xb2 xb3 xb4 : Int) (xrs : List Rec) (a : Option Addr) (cap : Nat) (c : UInt8) (hc : c ∈ letters) (v : Value) (body : List UInt8) (w : World) (hv : RB w v body) (hb : body.length ≤ 1099511627776)
    (h1 : xtp.length ≤ 1099511627776) (h2 : xgr.length ≤ 1099511627776) (h3 : xme.length ≤ 1099511627776) (hw : I64 xix ∧ I64 xpa ∧ I64 xof ∧ I64 xmo ∧ I64 xti ∧ I64 xge) :
    Calls Try.prog 98 #[.agg #[.int .u8 (xk : Nat), .string (str xtp), .int .i64 xix, .int .i64 xpa, .bool xco, .bool xfl, .int .i64 xof, .int .i64 xmo, .int .i64 xti, .string (str xgr), .string (str xme), .int .i64 xge, .int .i64 xb0, .int .i64 xb1, .int .i64 xb2, .int .i64 xb3, .int .i64 xb4, .slice a xrs.length cap], .int .i32 c.toNat, v] w fun e w' => ∃ v, e = .returned v ∧ BMade w w' v (reqField ⟨xk, xtp, xix, xpa, xco, xfl, xof, xmo, xti, xgr, xme, xge, ⟨xb0, xb1, xb2, xb3, xb4, xrs⟩⟩ body c) := by
  obtain ⟨⟨i1, i1'⟩, ⟨i2, i2'⟩, ⟨i3, i3'⟩, ⟨i4, i4'⟩, ⟨i5, i5'⟩, ⟨i6, i6'⟩⟩ := hw
  have hcv := fun (L : List (Array Obj)) (n : Nat) => (hv.more (more_wd w L n)).run_str (P := Try.prog) 28 9 5 Try.underlying28 Try.underlying5 Try.underlying9
  clear hv
  simp only [letters, List.mem_cons, List.not_mem_nil, or_false] at hc
  rcases hc with rfl | rfl | rfl | rfl | rfl | rfl | rfl | rfl | rfl | rfl | rfl | rfl
  · refine calls_wd ?_
    go_enter Try.func98, Try.ntmps98
    go_wp2_with (first | (go_at_call 59; ((with_reducible refine (texts_any xtp h1 _).mono ?_); rintro e w1 ⟨v1, rfl, x1⟩; obtain ⟨m1, rfl, hr1⟩ := x1.wd; clear x1)))
    go_ret
    exact ⟨_, rfl, fin2 hr1 rfl⟩
  · refine calls_wd ?_
    go_enter Try.func98, Try.ntmps98
    go_wp2_with (first | (go_at_call 51; ((with_reducible refine (put_any xix i1 i1' _).mono ?_); rintro e w1 ⟨v1, rfl, x1⟩; obtain ⟨m1, rfl, hr1⟩ := x1.wd; clear x1)))
    go_ret
    exact ⟨_, rfl, fin2 hr1 rfl⟩
  · refine calls_wd ?_
    go_enter Try.func98, Try.ntmps98
    go_wp2_with (first | (go_at_call 51; ((with_reducible refine (put_any xpa i2 i2' _).mono ?_); rintro e w1 ⟨v1, rfl, x1⟩; obtain ⟨m1, rfl, hr1⟩ := x1.wd; clear x1)))
    go_ret
    exact ⟨_, rfl, fin2 hr1 rfl⟩
  · refine calls_wd ?_
    go_enter Try.func98, Try.ntmps98
    go_wp2_with (first | (go_at_call 134; ((with_reducible refine (flag_any xco _).mono ?_); rintro e w1 ⟨v1, rfl, x1⟩; obtain ⟨m1, rfl, hr1⟩ := x1.wd; clear x1)))
    go_ret
    exact ⟨_, rfl, fin2 hr1 rfl⟩
  · refine calls_wd ?_
    go_enter Try.func98, Try.ntmps98
    go_wp2_with (first | (go_at_call 134; ((with_reducible refine (flag_any xfl _).mono ?_); rintro e w1 ⟨v1, rfl, x1⟩; obtain ⟨m1, rfl, hr1⟩ := x1.wd; clear x1)))
    go_ret
    exact ⟨_, rfl, fin2 hr1 rfl⟩
  · refine calls_wd ?_
    go_enter Try.func98, Try.ntmps98
    go_wp2_with (first | (go_at_call 51; ((with_reducible refine (put_any xof i3 i3' _).mono ?_); rintro e w1 ⟨v1, rfl, x1⟩; obtain ⟨m1, rfl, hr1⟩ := x1.wd; clear x1)))
    go_ret
    exact ⟨_, rfl, fin2 hr1 rfl⟩
  · refine calls_wd ?_
    go_enter Try.func98, Try.ntmps98
    go_wp2_with (first | (go_at_call 51; ((with_reducible refine (put_any xmo i4 i4' _).mono ?_); rintro e w1 ⟨v1, rfl, x1⟩; obtain ⟨m1, rfl, hr1⟩ := x1.wd; clear x1)))
    go_ret
    exact ⟨_, rfl, fin2 hr1 rfl⟩
  · refine calls_wd ?_
    go_enter Try.func98, Try.ntmps98
    go_wp2_with (first | (go_at_call 51; ((with_reducible refine (put_any xti i5 i5' _).mono ?_); rintro e w1 ⟨v1, rfl, x1⟩; obtain ⟨m1, rfl, hr1⟩ := x1.wd; clear x1)))
    go_ret
    exact ⟨_, rfl, fin2 hr1 rfl⟩
  · refine calls_wd ?_
    go_enter Try.func98, Try.ntmps98
    go_wp2_with (first | (go_at_call 59; ((with_reducible refine (texts_any xgr h2 _).mono ?_); rintro e w1 ⟨v1, rfl, x1⟩; obtain ⟨m1, rfl, hr1⟩ := x1.wd; clear x1)))
    go_ret
    exact ⟨_, rfl, fin2 hr1 rfl⟩
  · refine calls_wd ?_
    go_enter Try.func98, Try.ntmps98
    go_wp2_with (first | (go_at_call 59; ((with_reducible refine (texts_any xme h3 _).mono ?_); rintro e w1 ⟨v1, rfl, x1⟩; obtain ⟨m1, rfl, hr1⟩ := x1.wd; clear x1)))
    go_ret
    exact ⟨_, rfl, fin2 hr1 rfl⟩
  · refine calls_wd ?_
    go_enter Try.func98, Try.ntmps98
    go_wp2_with (first | (go_at_call 51; ((with_reducible refine (put_any xge i6 i6' _).mono ?_); rintro e w1 ⟨v1, rfl, x1⟩; obtain ⟨m1, rfl, hr1⟩ := x1.wd; clear x1)))
    go_ret
    exact ⟨_, rfl, fin2 hr1 rfl⟩
  · refine calls_wd ?_
    go_enter Try.func98, Try.ntmps98
    go_wp2_with (first | (go_at_call 59; ((with_reducible refine (texts_any body hb _).mono ?_); rintro e w1 ⟨v1, rfl, x1⟩; obtain ⟨m1, rfl, hr1⟩ := x1.wd; clear x1)))
    go_ret
    exact ⟨_, rfl, fin2 hr1 rfl⟩
end Go.Proofs.Ytejokhgabcldhaa
