/- The statement BrokerNobody, proved: of every config and every request the law answers true. No condition. -/
import Derived.Test.YtmeflkagldebiaaGreatMA
import Derived.Test.YtmeflkagldebiaaGreatBF
import Derived.Test.YtmeflkagldebiaaGreatBJ
import Derived.Test.YtmeflkagldebiaaGreatBK
namespace Go.Proofs.YtmeflkagldebiaaGreat
open Go.ChangeShapes Go.WideShapes Go.ChangeAt Go.RowKit
set_option linter.unusedVariables false
set_option linter.unusedSimpArgs false
set_option maxRecDepth 100000
theorem cells_of : Tryz.prog.cellsOf 3 = 1 ∧ Tryz.prog.cellsOf 9 = 1 ∧ Tryz.prog.cellsOf 4 = 1 ∧ Tryz.prog.cellsOf 5 = 1 ∧ Tryz.prog.cellsOf 69 = 1 ∧ Tryz.prog.cellsOf 24 = 1 ∧ Tryz.prog.cellsOf 136 = 6 ∧ Tryz.prog.cellsOf 26 = 6 ∧ Tryz.prog.cellsOf 28 = 18 ∧ Tryz.prog.cellsOf 23 = 6 := by
  refine ⟨?_, ?_, ?_, ?_, ?_, ?_, ?_, ?_, ?_, ?_⟩ <;> kernel_rfl
theorem i64_wf {n : Int} (h : (Lit.int .i64 n).wf = true) : I64 n := by
  simp only [Lit.wf, Bool.and_eq_true, decide_eq_true_eq] at h
  exact h
theorem u8_wf {n : Int} (h : (Lit.int .u8 n).wf = true) : 0 ≤ n ∧ n < 256 := by
  simp only [Lit.wf, Bool.and_eq_true, decide_eq_true_eq] at h
  have h2 : n ≤ 255 := h.2
  exact ⟨h.1, by omega⟩
theorem rows_rd {α : Type} [Inhabited α] {w : World} {t e : TypeId} {cs : List Value} {size : Nat} {cells : α → List Value} {p : α → Prop} (ht : Tryz.prog.underlying t = some (.slice e)) (hsz : Tryz.prog.cellsOf e = size) (hpos : 0 < size) (hlen : ∀ x, (cells x).length = size)
    (hel : ∀ cs, Rd Tryz.prog w e cs → ∃ x : α, cs = cells x ∧ p x) (h : Rd Tryz.prog w t cs) : ∃ (a : Option Addr) (cap : Nat) (l : List α), cs = [.slice a l.length cap] ∧ RowAt cells size w a l ∧ (∀ x ∈ l, p x) ∧ l.length ≤ cap ∧ cap ≤ maxLen := by
  rcases h.slice ht (by omega) with ⟨a, cap, rfl, hm⟩ | ⟨b, off, len, cap, rfl, h0, hl, hm, hb, hcells⟩
  · exact ⟨a, cap, [], rfl, RowAt.nil _, fun x hx => by simp at hx, Nat.zero_le _, hm⟩
  · rw [hsz] at hcells
    have key : ∀ k, ∃ x : α, k < len → p x ∧ ∀ j, j < size → w.cell? ⟨b, off + (k * size + j), none⟩ = (cells x)[j]? := fun k => by
      by_cases hk : k < len
      · obtain ⟨cs', _, hr, hc⟩ := hcells k hk
        obtain ⟨x, rfl, hp⟩ := hel cs' hr
        exact ⟨x, fun _ => ⟨hp, hc⟩⟩
      · exact ⟨default, fun h => absurd h hk⟩
    obtain ⟨f, hf⟩ := Classical.axiomOfChoice key
    have hr := rdrow_of_fn cells size hlen hpos (cap := cap) f hb (fun k hk => (hf k hk).2)
    have hll : ((List.range len).map f).length = len := by simp
    refine ⟨some ⟨b, off, none⟩, cap, (List.range len).map f, by rw [hll], RowAt.of_rd (cap := cap) ?_, ?_, by rw [hll]; exact hl, hm⟩
    · rw [hll] at hr ⊢; exact hr
    · intro x hx
      obtain ⟨k, hk, rfl⟩ := List.mem_map.1 hx
      exact (hf k (by simpa using hk)).1
theorem flat_one (l : List UInt8) : l.flatMap (fun x => [Value.int .u8 x.toNat]) = l.map (fun b => Value.int .u8 b.toNat) := by
  induction l with
  | nil => rfl
  | cons x l ih => rw [List.flatMap_cons, List.map_cons, ih]; rfl
theorem seg {α : Type} (cs : List α) (k m : Nat) : cs.drop k = (cs.drop k).take m ++ cs.drop (k + m) := by
  rw [← List.drop_drop]; exact (List.take_append_drop m _).symm
theorem byte_rd {w : World} {cs : List Value} (h : Rd Tryz.prog w 5 cs) : ∃ x : UInt8, cs = [.int .u8 x.toNat] := by
  obtain ⟨n, rfl, hw⟩ := h.int Tryz.underlying5
  obtain ⟨h1, h2⟩ := u8_wf hw
  refine ⟨UInt8.ofNat n.toNat, ?_⟩
  rw [u8_toNat _ (by omega), Int.toNat_of_nonneg h1]
theorem bytes_rd {w : World} {cs : List Value} (h : Rd Tryz.prog w 69 cs) : ∃ (a : Option Addr) (cap : Nat) (l : List UInt8), cs = [.slice a l.length cap] ∧ RB w (.slice a l.length cap) l := by
  obtain ⟨a, cap, l, rfl, hr, _, h1, h2⟩ := rows_rd (cells := fun x : UInt8 => [Value.int .u8 x.toNat]) (size := 1) (p := fun _ => True) Tryz.underlying69 cells_of.2.2.2.1 (by decide) (fun _ => rfl) (fun cs hcs => by obtain ⟨x, hx⟩ := byte_rd hcs; exact ⟨x, hx, trivial⟩) h
  refine ⟨a, cap, l, rfl, a, cap, rfl, h1, h2, fun hne => ?_⟩
  obtain ⟨b, off, ha, hb, hc⟩ := hr.out hne
  refine ⟨b, off, ha, hb, fun i hi => ?_⟩
  rw [hc i (by omega)]
  rw [flat_one]; rfl
theorem str_ex (s : ByteArray) : ∃ l : List UInt8, s = str l ∧ l.length = s.size := ⟨s.data.toList, (str_of s).symm, by simp⟩
theorem rec_rd {w : World} {cs : List Value} (h : Rd Tryz.prog w 136 cs) : ∃ x : Rec, cs = recCells x ∧ x.wf ∧ x.key.length ≤ maxLen ∧ x.value.length ≤ maxLen := by
  obtain ⟨ci, cst, cb, _, _, _, cr, _⟩ := cells_of
  obtain ⟨hl, hf⟩ := h.struct Tryz.underlying136
  rw [cr] at hl
  obtain ⟨n0, e0, w0⟩ := (hf 0 _ rfl).int Tryz.underlying3
  obtain ⟨n1, e1, w1⟩ := (hf 1 _ rfl).int Tryz.underlying3
  obtain ⟨b2, e2⟩ := (hf 2 _ rfl).bool Tryz.underlying4
  obtain ⟨s3, e3, m3⟩ := (hf 3 _ rfl).string Tryz.underlying9
  obtain ⟨b4, e4⟩ := (hf 4 _ rfl).bool Tryz.underlying4
  obtain ⟨s5, e5, m5⟩ := (hf 5 _ rfl).string Tryz.underlying9
  obtain ⟨l3, rfl, g3'⟩ := str_ex s3
  obtain ⟨l5, rfl, g5'⟩ := str_ex s5
  have e0 : (cs.drop 0).take (Tryz.prog.cellsOf 3) = _ := e0
  rw [ci] at e0
  have e1 : (cs.drop 1).take (Tryz.prog.cellsOf 3) = _ := e1
  rw [ci] at e1
  have e2 : (cs.drop 2).take (Tryz.prog.cellsOf 4) = _ := e2
  rw [cb] at e2
  have e3 : (cs.drop 3).take (Tryz.prog.cellsOf 9) = _ := e3
  rw [cst] at e3
  have e4 : (cs.drop 4).take (Tryz.prog.cellsOf 4) = _ := e4
  rw [cb] at e4
  have e5 : (cs.drop 5).take (Tryz.prog.cellsOf 9) = _ := e5
  rw [cst] at e5
  have g0 := seg cs 0 1
  rw [e0] at g0
  have g1 := seg cs 1 1
  rw [e1] at g1
  have g2 := seg cs 2 1
  rw [e2] at g2
  have g3 := seg cs 3 1
  rw [e3] at g3
  have g4 := seg cs 4 1
  rw [e4] at g4
  have g5 := seg cs 5 1
  rw [e5] at g5
  have gz : cs.drop 6 = [] := List.drop_eq_nil_of_le (by omega)
  have hcs : cs = _ := (List.drop_zero (l := cs)).symm.trans g0
  simp only [Nat.zero_add, Nat.reduceAdd] at g0 g1 g2 g3 g4 g5 hcs
  rw [g1, g2, g3, g4, g5, gz] at hcs
  exact ⟨⟨n0, n1, b2, l3, b4, l5⟩, hcs, ⟨i64_wf w0, i64_wf w1⟩, by rw [g3']; exact m3, by rw [g5']; exact m5⟩
/-- Records that came in. -/
theorem recs_rd {w : World} {cs : List Value} (h : Rd Tryz.prog w 24 cs) : ∃ (a : Option Addr) (cap : Nat) (l : List Rec), cs = [.slice a l.length cap] ∧ RecsAt w a l ∧ (∀ x ∈ l, x.wf) ∧ l.length ≤ maxLen := by
  obtain ⟨a, cap, l, h1, h2, h3, h4, h5⟩ := rows_rd (cells := recCells) (size := 6) (p := fun x => x.wf) Tryz.underlying24 cells_of.2.2.2.2.2.2.1 (by decide) recCells_len (fun cs hcs => by obtain ⟨x, hx, hw, _⟩ := rec_rd hcs; exact ⟨x, hx, hw⟩) h
  exact ⟨a, cap, l, h1, h2, h3, Nat.le_trans h4 h5⟩
def batCells (b : Bat) (a : Option Addr) (cap : Nat) : List Value := [.int .i64 b.base, .int .i64 b.count, .int .i64 b.producer, .int .i64 b.epoch, .int .i64 b.seq, .slice a b.recs.length cap]
theorem bat_rd {w : World} {cs : List Value} (h : Rd Tryz.prog w 26 cs) : ∃ (b : Bat) (a : Option Addr) (cap : Nat), cs = batCells b a cap ∧ RecsAt w a b.recs ∧ b.wf ∧ (∀ x ∈ b.recs, x.wf) ∧ b.recs.length ≤ maxLen := by
  obtain ⟨ci, cst, cb, _, _, crs, cr, cbt, _⟩ := cells_of
  obtain ⟨hl, hf⟩ := h.struct Tryz.underlying26
  rw [cbt] at hl
  obtain ⟨n0, e0, w0⟩ := (hf 0 _ rfl).int Tryz.underlying3
  obtain ⟨n1, e1, w1⟩ := (hf 1 _ rfl).int Tryz.underlying3
  obtain ⟨n2, e2, w2⟩ := (hf 2 _ rfl).int Tryz.underlying3
  obtain ⟨n3, e3, w3⟩ := (hf 3 _ rfl).int Tryz.underlying3
  obtain ⟨n4, e4, w4⟩ := (hf 4 _ rfl).int Tryz.underlying3
  obtain ⟨a, cap, l, e5, hr, hw, hm⟩ := recs_rd (hf 5 _ rfl)
  have e0 : (cs.drop 0).take (Tryz.prog.cellsOf 3) = _ := e0
  rw [ci] at e0
  have e1 : (cs.drop 1).take (Tryz.prog.cellsOf 3) = _ := e1
  rw [ci] at e1
  have e2 : (cs.drop 2).take (Tryz.prog.cellsOf 3) = _ := e2
  rw [ci] at e2
  have e3 : (cs.drop 3).take (Tryz.prog.cellsOf 3) = _ := e3
  rw [ci] at e3
  have e4 : (cs.drop 4).take (Tryz.prog.cellsOf 3) = _ := e4
  rw [ci] at e4
  have e5 : (cs.drop 5).take (Tryz.prog.cellsOf 24) = _ := e5
  rw [crs] at e5
  have g0 := seg cs 0 1
  rw [e0] at g0
  have g1 := seg cs 1 1
  rw [e1] at g1
  have g2 := seg cs 2 1
  rw [e2] at g2
  have g3 := seg cs 3 1
  rw [e3] at g3
  have g4 := seg cs 4 1
  rw [e4] at g4
  have g5 := seg cs 5 1
  rw [e5] at g5
  have gz : cs.drop 6 = [] := List.drop_eq_nil_of_le (by omega)
  have hcs : cs = _ := (List.drop_zero (l := cs)).symm.trans g0
  simp only [Nat.zero_add, Nat.reduceAdd] at g0 g1 g2 g3 g4 g5 hcs
  rw [g1, g2, g3, g4, g5, gz] at hcs
  exact ⟨⟨n0, n1, n2, n3, n4, l⟩, a, cap, hcs, hr, ⟨i64_wf w0, i64_wf w1, i64_wf w2, i64_wf w3, i64_wf w4⟩, hw, hm⟩
theorem req_rd {w : World} {cs : List Value} (h : Rd Tryz.prog w 28 cs) : ∃ (q : Req) (a : Option Addr) (cap : Nat), cs = reqCells q a cap ∧ RecsAt w a q.batch.recs ∧ q.kind < 256 ∧ q.wf ∧ q.topic.length ≤ maxLen ∧ q.group.length ≤ maxLen ∧ q.member.length ≤ maxLen ∧ q.batch.recs.length ≤ maxLen := by
  obtain ⟨ci, cst, cb, cu, _, crs, cr, cbt, cq, _⟩ := cells_of
  obtain ⟨hl, hf⟩ := h.struct Tryz.underlying28
  rw [cq] at hl
  obtain ⟨k0, e0, w0⟩ := (hf 0 _ rfl).int Tryz.underlying5
  obtain ⟨s1, e1, m1⟩ := (hf 1 _ rfl).string Tryz.underlying9
  obtain ⟨n2, e2, w2⟩ := (hf 2 _ rfl).int Tryz.underlying3
  obtain ⟨n3, e3, w3⟩ := (hf 3 _ rfl).int Tryz.underlying3
  obtain ⟨b4, e4⟩ := (hf 4 _ rfl).bool Tryz.underlying4
  obtain ⟨b5, e5⟩ := (hf 5 _ rfl).bool Tryz.underlying4
  obtain ⟨n6, e6, w6⟩ := (hf 6 _ rfl).int Tryz.underlying3
  obtain ⟨n7, e7, w7⟩ := (hf 7 _ rfl).int Tryz.underlying3
  obtain ⟨n8, e8, w8⟩ := (hf 8 _ rfl).int Tryz.underlying3
  obtain ⟨s9, e9, m9⟩ := (hf 9 _ rfl).string Tryz.underlying9
  obtain ⟨s10, e10, m10⟩ := (hf 10 _ rfl).string Tryz.underlying9
  obtain ⟨n11, e11, w11⟩ := (hf 11 _ rfl).int Tryz.underlying3
  obtain ⟨b, a, cap, e12, hr, hbw, hw, hm⟩ := bat_rd (hf 12 _ rfl)
  obtain ⟨l1, rfl, g1'⟩ := str_ex s1
  obtain ⟨l9, rfl, g9'⟩ := str_ex s9
  obtain ⟨l10, rfl, g10'⟩ := str_ex s10
  obtain ⟨u1, u2⟩ := u8_wf w0
  have e0 : (cs.drop 0).take (Tryz.prog.cellsOf 5) = _ := e0
  rw [cu] at e0
  have e1 : (cs.drop 1).take (Tryz.prog.cellsOf 9) = _ := e1
  rw [cst] at e1
  have e2 : (cs.drop 2).take (Tryz.prog.cellsOf 3) = _ := e2
  rw [ci] at e2
  have e3 : (cs.drop 3).take (Tryz.prog.cellsOf 3) = _ := e3
  rw [ci] at e3
  have e4 : (cs.drop 4).take (Tryz.prog.cellsOf 4) = _ := e4
  rw [cb] at e4
  have e5 : (cs.drop 5).take (Tryz.prog.cellsOf 4) = _ := e5
  rw [cb] at e5
  have e6 : (cs.drop 6).take (Tryz.prog.cellsOf 3) = _ := e6
  rw [ci] at e6
  have e7 : (cs.drop 7).take (Tryz.prog.cellsOf 3) = _ := e7
  rw [ci] at e7
  have e8 : (cs.drop 8).take (Tryz.prog.cellsOf 3) = _ := e8
  rw [ci] at e8
  have e9 : (cs.drop 9).take (Tryz.prog.cellsOf 9) = _ := e9
  rw [cst] at e9
  have e10 : (cs.drop 10).take (Tryz.prog.cellsOf 9) = _ := e10
  rw [cst] at e10
  have e11 : (cs.drop 11).take (Tryz.prog.cellsOf 3) = _ := e11
  rw [ci] at e11
  have e12 : (cs.drop 12).take (Tryz.prog.cellsOf 26) = _ := e12
  rw [cbt] at e12
  have g0 := seg cs 0 1
  rw [e0] at g0
  have g1 := seg cs 1 1
  rw [e1] at g1
  have g2 := seg cs 2 1
  rw [e2] at g2
  have g3 := seg cs 3 1
  rw [e3] at g3
  have g4 := seg cs 4 1
  rw [e4] at g4
  have g5 := seg cs 5 1
  rw [e5] at g5
  have g6 := seg cs 6 1
  rw [e6] at g6
  have g7 := seg cs 7 1
  rw [e7] at g7
  have g8 := seg cs 8 1
  rw [e8] at g8
  have g9 := seg cs 9 1
  rw [e9] at g9
  have g10 := seg cs 10 1
  rw [e10] at g10
  have g11 := seg cs 11 1
  rw [e11] at g11
  have g12 := seg cs 12 6
  rw [e12] at g12
  have gz : cs.drop 18 = [] := List.drop_eq_nil_of_le (by omega)
  have hcs : cs = _ := (List.drop_zero (l := cs)).symm.trans g0
  simp only [Nat.zero_add, Nat.reduceAdd] at g0 g1 g2 g3 g4 g5 g6 g7 g8 g9 g10 g11 g12 hcs
  rw [g1, g2, g3, g4, g5, g6, g7, g8, g9, g10, g11, g12, gz] at hcs
  refine ⟨⟨k0.toNat, l1, n2, n3, b4, b5, n6, n7, n8, l9, l10, n11, b⟩, a, cap, ?_, hr, by dsimp only; omega, ⟨i64_wf w2, i64_wf w3, i64_wf w6, i64_wf w7, i64_wf w8, i64_wf w11⟩, by rw [g1']; exact m1, by rw [g9']; exact m9, by rw [g10']; exact m10, hm⟩
  rw [hcs]
  simp [reqCells, batCells, Int.toNat_of_nonneg u1]
theorem okWide_agg {P : Program} {w : World} {r : Reach} {b : Nat} {t : TypeId} {fs : Array Field} {v : Value} (ht : P.underlying t = some (.struct fs)) (h : Value.okWide P w r b t v) : ∃ cs, v = .agg cs ∧ cs.size = P.cellsOf t := by
  simp only [Value.okWide, ht] at h
  obtain ⟨cs, h1, h2, _⟩ := h
  exact ⟨cs, h1, h2⟩

theorem six_of {l : List Value} (h : l.length = 6) : ∃ a b c d e f, l = [a, b, c, d, e, f] := by
  match l, h with
  | [a, b, c, d, e, f], _ => exact ⟨a, b, c, d, e, f, rfl⟩
theorem cfg_rd {w : World} {r : Reach} {b : Nat} {v : Value} (hk : Value.okWide Tryz.prog w r b 23 v) (h : Rd Tryz.prog w 23 v.cells.toList) :
    ∃ n0 n1 n2 n3 n4 n5 : Int, v = .agg #[.int .i64 n0, .int .i64 n1, .int .i64 n2, .int .i64 n3, .int .i64 n4, .int .i64 n5] ∧ I64 n4 ∧ I64 n5 := by
  obtain ⟨ci, _, _, _, _, _, _, _, _, cc⟩ := cells_of
  obtain ⟨cs, rfl, hsz⟩ := okWide_agg Tryz.underlying23 hk
  obtain ⟨_, hf⟩ := h.struct Tryz.underlying23
  rw [cc] at hsz
  obtain ⟨d0, d1, d2, d3, d4, d5, hcs⟩ := six_of (l := cs.toList) (by rw [Array.length_toList]; exact hsz)
  have ecs : cs = #[d0, d1, d2, d3, d4, d5] := by apply Array.toList_inj.1; rw [hcs]
  subst ecs
  obtain ⟨n0, e0, w0⟩ := (hf 0 _ rfl).int Tryz.underlying3
  obtain ⟨n1, e1, w1⟩ := (hf 1 _ rfl).int Tryz.underlying3
  obtain ⟨n2, e2, w2⟩ := (hf 2 _ rfl).int Tryz.underlying3
  obtain ⟨n3, e3, w3⟩ := (hf 3 _ rfl).int Tryz.underlying3
  obtain ⟨n4, e4, w4⟩ := (hf 4 _ rfl).int Tryz.underlying3
  obtain ⟨n5, e5, w5⟩ := (hf 5 _ rfl).int Tryz.underlying3
  simp [Value.cells, ci] at e0 e1 e2 e3 e4 e5
  exact ⟨n0, n1, n2, n3, n4, n5, by rw [e0, e1, e2, e3, e4, e5], i64_wf w4, i64_wf w5⟩
theorem cells_agg {v : Value} {L : List Value} {w : World} {r : Reach} {b : Nat} (hk : Value.okWide Tryz.prog w r b 28 v) (h : v.cells.toList = L) : v = .agg L.toArray := by
  obtain ⟨cs, rfl, _⟩ := okWide_agg Tryz.underlying28 hk
  simp only [Value.cells] at h
  rw [← h]
theorem bnob_rd {base : Nat} {w : World} (v0 v1 : Value) (k0 : Value.okWide Tryz.prog w .any base 23 v0) (k1 : Value.okWide Tryz.prog w .any base 28 v1)
    (r0 : Rd Tryz.prog w 23 v0.cells.toList) (r1 : Rd Tryz.prog w 28 v1.cells.toList) :
    Calls Tryz.prog 3 #[v0, v1] w fun e w' => e = .returned (.bool true) ∧ More w w' := by
  obtain ⟨n0, n1, n2, n3, n4, n5, rfl, h4, h5⟩ := cfg_rd k0 r0
  obtain ⟨q, a, cap, hv, hr, _, _, t1, t2, t3, hm⟩ := req_rd r1
  obtain rfl := cells_agg k1 hv
  exact bnob_any n0 n1 n2 n3 n4 n5 q a cap w hr hm t1 t2 t3 h4.1 h4.2 h5.1 h5.2

set_option maxRecDepth 100000 in
theorem liftedBrokerNobody (os : Os) (started : os.Started) (H : Type) (enc : TypeId × Value → H) :
    ReturnsInHanded {} Tryz.checked os 3 .any (Rows.brokerNobodySpec.pre6 enc Tryz.prog Tryz.f3 Rows.brokerNobodyRow.domain false) (Rows.brokerNobodySpec.post enc Tryz.prog Tryz.f3 false true false false) := by
  refine returnsInHanded_of_change (C := Tryz.checked) own started (by kernel_rfl) Tryz.func3
    (ChangeSpec.witness6 (enc := enc) (C := Tryz.checked) false ⟨#[], #[.agg #[.int .i64 0, .int .i64 0, .int .i64 0, .int .i64 0, .int .i64 0, .int .i64 0], .agg #[.int .u8 0, .string ⟨#[]⟩, .int .i64 0, .int .i64 0, .bool false, .bool false, .int .i64 0, .int .i64 0, .int .i64 0, .string ⟨#[]⟩, .string ⟨#[]⟩, .int .i64 0, .int .i64 0, .int .i64 0, .int .i64 0, .int .i64 0, .int .i64 0, .slice none 0 0]], []⟩ 8 (by kernel_rfl) (by kernel_rfl) (by kernel_rfl) (by kernel_rfl)) ?_
  intro W base args ds gs before hval0 hW hcnd _
  have hval : ∀ (j : Nat) t v, Tryz.f3.params[j]? = some t → args[j]? = some v → Value.okWide Tryz.prog W .any base t v := hval0
  have hW' := hW
  obtain ⟨p, q, hA0, hV, rfl, hfz, hnd⟩ := hW
  have hA : DataW.TrodAll enc Tryz.prog W 0 (fun _ => true) true Tryz.f3.params.toList args.toList ds p := hA0
  rw [Tryz.params3] at hA hval
  obtain ⟨v0, vs0, d0, ds0, p0, q0, hargs, rfl, rfl, h0, r0⟩ := trodAll_cons hA
  obtain ⟨v1, vs1, d1, ds1, p1, q1, rfl, rfl, rfl, h1, r1⟩ := trodAll_cons r0
  obtain ⟨rfl, rfl, rfl⟩ := trodAll_nil r1
  obtain rfl : args = #[v0, v1] := by cases args; simp_all
  obtain ⟨rfl, rfl⟩ := trodVars_none hV
  have lt0 : ∀ x ∈ p0, x.block < W.heap.size := by obtain ⟨m, hm⟩ := h0; exact DataW.trod_lt m _ _ _ hm
  have rd0 : Rd Tryz.prog W 23 v0.cells.toList := by obtain ⟨m, hm⟩ := h0; exact ⟨H, enc, m, _, hm⟩
  have lt1 : ∀ x ∈ p1, x.block < W.heap.size := by obtain ⟨m, hm⟩ := h1; exact DataW.trod_lt m _ _ _ hm
  have rd1 : Rd Tryz.prog W 28 v1.cells.toList := by obtain ⟨m, hm⟩ := h1; exact ⟨H, enc, m, _, hm⟩
  clear hA0 hval0
  refine (bnob_rd v0 v1 (hval 0 23 v0 rfl rfl) (hval 1 28 v1 rfl rfl) rd0 rd1).mono fun e W' ⟨he, hmore⟩ => ?_
  subst he
  have bel := hmore.below
  exact ⟨_, rfl, _, _, _, [], _, [], hW', trodAll_mk1 (shut_bool Tryz.underlying4 _), (trodAll_cons_mk (Below.trod laidOut (by kernel_rfl) (of_decide_eq_true (by kernel_rfl)) h0 bel lt0) (trodAll_cons_mk (Below.trod laidOut (by kernel_rfl) (of_decide_eq_true (by kernel_rfl)) h1 bel lt1) trodAll_mk0)), rfl, bel.frame _, fun h => by cases h⟩

theorem overBrokerNobody : Rows.brokerNobodyRow.holds Tryz.pinned (OpenSpec.ofChange Rows.brokerNobodySpec) :=
  OpenClaim.holds_of_wide 3 Tryz.f3 rfl rfl rfl rfl rfl rfl rfl ⟨rfl, rfl, rfl, rfl, rfl⟩ rfl rfl rfl rfl rfl over_named Tryz.func3 over_closed
    over_inst over_wrap
    (fun os started H enc _ => liftedBrokerNobody os started H enc)

/-- THE STATEMENT. -/
theorem provedBrokerNobody : Rows.BrokerNobodySaid := overBrokerNobody
#print axioms provedBrokerNobody
end Go.Proofs.YtmeflkagldebiaaGreat
