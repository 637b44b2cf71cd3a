/- BrokerNobody: the walk up to Few, the rest by the engine. -/
import Derived.Test.YtmeflkagldebiaaGreatBE
import Derived.Test.YtmeflkagldebiaaGreatBC
import Derived.Test.YtmeflkagldebiaaGreatBD
namespace Go.Proofs.YtmeflkagldebiaaGreat
open Go.ChangeShapes Go.WideShapes Go.ChangeAt Go.RowKit
set_option linter.unusedVariables false
set_option linter.unusedSimpArgs false
set_option maxRecDepth 100000
theorem awake24 (W : World) : Calls Tryz.prog 5 #[] W fun e w' => e = .returned (.bool true) ∧ More W w' := by
  obtain ⟨H, h⟩ := Ev.of_isOk Ev.awake_run
  exact Ev.call_more Ev.follows Ev.fnP_ok 3000 h rfl (fun _ => none) rfl W
namespace Ev
theorem conc_rng {φ : Phi} {n : Nat} {m lo hi : Int} (h4 : n % 8 = 4) (hl : tokLo (n / 8) = lo) (hh : tokHi (n / 8) = hi) (he : φ.env (n / 8 % 65536) = some (.int .i64 m)) (h1 : lo ≤ m) (h2 : m ≤ hi) : conc φ (.float .f64 n) = some (.int .i64 m) := by
  have e : tok φ.env n = some (.int .i64 m) := by
    unfold tok
    rw [if_neg (by omega), if_neg (by omega), if_neg (by omega), if_neg (by omega), if_pos h4, he]
    simp only
    rw [hl, hh, if_pos ⟨h1, h2⟩]
  simp only [conc, e]
  rfl
/-- What the tokens stand for. -/
def envB (n0 n1 n2 n3 s r : Int) (q : Req) (a : Option Addr) (cap : Nat) (v : Value) : Nat → Option Value := fun i =>
  (([.int .i64 n0, .int .i64 n1, .int .i64 n2, .int .i64 n3, .int .i64 s, .int .i64 r] ++ (reqCells q a cap ++ [undef, undef, undef, undef, undef, undef, undef, v]) : List Value))[i]?
variable {φ : Phi} {n0 n1 n2 n3 s r : Int} {q : Req} {a : Option Addr} {cap : Nat} {v : Value}
theorem qT_conc (h : φ.env = envB n0 n1 n2 n3 s r q a cap v) : concL φ qT = some (reqCells q a cap) := by
  simp [qT, concL, conc, tok, h, envB, reqCells, oneCell]
theorem aT_conc (h : φ.env = envB n0 n1 n2 n3 s r q a cap v) : concL φ aT = some (.int .u8 0 :: (reqCells q a cap ++ [.int .i64 0])) := by
  simp [aT, concL, conc, tok, h, envB, reqCells, oneCell]
theorem cT_conc (h : φ.env = envB n0 n1 n2 n3 s r q a cap v) {S R : Value} (hS : conc φ S = some (.int .i64 s)) (hR : conc φ R = some (.int .i64 r)) : concL φ (cT S R) = some [.int .i64 n0, .int .i64 n1, .int .i64 n2, .int .i64 n3, .int .i64 s, .int .i64 r] := by
  simp [cT, concL, conc, tok, h, envB, reqCells, oneCell, hS, hR]
/-- The slots behind Few. -/
def slotsB (n0 n1 n2 n3 s r : Int) (q : Req) (a : Option Addr) (cap : Nat) (v : Value) (b0 b1 : Nat) : List Value :=
  [.agg [.int .i64 n0, .int .i64 n1, .int .i64 n2, .int .i64 n3, .int .i64 s, .int .i64 r].toArray, .agg (reqCells q a cap).toArray, .pointer (some ⟨b0, 0, none⟩), .pointer (some ⟨b1, 0, none⟩), .bool false,
   undef, undef, undef, undef, undef, undef, undef, undef, undef, undef, undef, undef, undef, undef, undef, undef, undef, undef, undef,
   .agg (reqCells q a cap).toArray, .agg (.int .u8 0 :: (reqCells q a cap ++ [.int .i64 0])).toArray, v, .int .i64 0, .bool false]
theorem slots_conc {b0 b1 : Nat} (h : φ.env = envB n0 n1 n2 n3 s r q a cap v) {S R : Value} (hS : conc φ S = some (.int .i64 s)) (hR : conc φ R = some (.int .i64 r)) (h0 : φ.at_ 0 = some ⟨b0, 0, 0⟩) (h1 : φ.at_ 1 = some ⟨b1, 0, 0⟩) (hv : oneCell v = true) :
    concL φ (slots S R) = some (slotsB n0 n1 n2 n3 s r q a cap v b0 b1) := by
  have hq := qT_conc h
  have ha := aT_conc h
  have hc := cT_conc h hS hR
  have hv' : conc φ (.float .f64 248) = some v := by simp [conc, tok, h, envB, reqCells, hv]
  have hp0 : conc φ (.pointer (some ⟨0, 0, none⟩)) = some (.pointer (some ⟨b0, 0, none⟩)) := by simp [conc, concA, h0]
  have hp1 : conc φ (.pointer (some ⟨1, 0, none⟩)) = some (.pointer (some ⟨b1, 0, none⟩)) := by simp [conc, concA, h1]
  have agg : ∀ {L M : List Value}, concL φ L = some M → conc φ (.agg ⟨L⟩) = some (.agg M.toArray) := fun {L M} hL => by simp only [conc]; rw [hL]; rfl
  have cons : ∀ {x y : Value} {L M : List Value}, conc φ x = some y → concL φ L = some M → concL φ (x :: L) = some (y :: M) := fun {x y L M} hx hL => by simp only [concL]; rw [hx, hL]
  unfold slots slotsB
  refine cons (agg hc) (cons (agg hq) (cons hp0 (cons hp1 ?_)))
  repeat (first | exact (rfl : concL φ [] = some []) | (refine cons (by first | rfl | exact agg hq | exact agg ha | exact hv') ?_))
theorem brest {S R : Value} (hrun : runB S R = true) (hS : ∀ φ : Phi, φ.env = envB n0 n1 n2 n3 s r q a cap v → conc φ S = some (.int .i64 s)) (hR : ∀ φ : Phi, φ.env = envB n0 n1 n2 n3 s r q a cap v → conc φ R = some (.int .i64 r)) (hv : oneCell v = true)
    {w W : World} {b0 b1 : Nat} {t0 t1 : TypeId} (hb0 : W.heap[b0]? = some (.cells [.int .i64 n0, .int .i64 n1, .int .i64 n2, .int .i64 n3, .int .i64 s, .int .i64 r].toArray t0)) (hb1 : W.heap[b1]? = some (.cells (reqCells q a cap).toArray t1)) (hne : b0 ≠ b1)
    (hw0 : w.heap.size ≤ b0) (hw1 : w.heap.size ≤ b1) (hm : More w W) (n : Nat) (hn : 29 + n = Tryz.f3.ntmps) :
    Code.wp Tryz.prog rest24 (bodyPostM Fence.wide 0 Tryz.prog Tryz.f3 fun e w' => e = .returned (.bool true) ∧ More w w') { tmps := (slotsB n0 n1 n2 n3 s r q a cap v b0 b1 ++ List.replicate n undef).toArray, defers := [] } W := by
  obtain ⟨T, H1, H, T', H', l, hT, hH1, hH, hx, hl, hp⟩ := runB_spec hrun
  have henv : (⟨fun id => if id = 0 then some ⟨b0, 0, 0⟩ else if id = 1 then some ⟨b1, 0, 0⟩ else none, envB n0 n1 n2 n3 s r q a cap v⟩ : Phi).env = envB n0 n1 n2 n3 s r q a cap v := rfl
  have cells : ∀ (L M : List Value) (b : Nat) (t : TypeId) (φ : Phi), concL φ L = some M → objIs φ (.cells (L.map some) none none) ⟨b, 0, 0⟩ (.cells M.toArray t) := by
    intro L M b t φ hc
    refine ⟨M.toArray, t, (0, 0), rfl, .inl (Nat.le_refl _), ⟨rfl, rfl, by simp [concL_len hc]⟩, fun i x hi => ?_⟩
    rw [List.getElem?_map] at hi
    obtain ⟨y, hy, he⟩ := Option.map_eq_some_iff.1 hi
    cases he
    obtain ⟨z, g1, g2⟩ := concL_get hc i x hy
    exact ⟨z, by simpa using g1, g2⟩
  obtain ⟨hRel, hOwn⟩ := rel_two (env := envB n0 n1 n2 n3 s r q a cap v) hH1 hH hb0 hb1 hne (cells _ _ _ _ _ (cT_conc henv (hS _ henv) (hR _ henv))) (cells _ _ _ _ _ (qT_conc henv))
  have hF := frame_of hT (slots_conc henv (hS _ henv) (hR _ henv) rfl rfl hv) n
  rw [show (slotsB n0 n1 n2 n3 s r q a cap v b0 b1).length = 29 from rfl, hn] at hF
  refine exec_rest follows fnA_ok 3000 hx hl hRel hF fun V φ' w' hV _ hS' => ?_
  rw [hp] at hV
  cases hV
  refine ⟨rfl, more_of_below ⟨hS'.os.trans hm.below.os, hS'.tape.trans hm.below.tape, hS'.output.trans hm.below.output, Nat.le_trans hm.below.size hS'.size, fun b hb => ?_⟩⟩
  rw [hS'.keep b (Nat.lt_of_lt_of_le hb hm.below.size) (fun ho => by rcases hOwn b ho with h | h <;> omega)]
  exact hm.below.block b hb
end Ev
theorem few_cells (x y : Value) (L : List Value) (j : Nat) (hj : j < L.length) : (x :: (L ++ [y])).toArray[j + 1]? = L[j]? := by
  rw [List.getElem?_toArray, List.getElem?_cons_succ, List.getElem?_append_left hj]
set_option maxHeartbeats 3200000 in
theorem bnob_any (n0 n1 n2 n3 s r : Int) (q : Req) (a : Option Addr) (cap : Nat) (w : World) (hr : RecsAt w a q.batch.recs) (hm : q.batch.recs.length ≤ maxLen) (h1 : q.topic.length ≤ maxLen) (h2 : q.group.length ≤ maxLen) (h3 : q.member.length ≤ maxLen)
    (hs0 : -9223372036854775808 ≤ s) (hs1 : s ≤ 9223372036854775807) (hr0 : -9223372036854775808 ≤ r) (hr1 : r ≤ 9223372036854775807) :
    Calls Tryz.prog 3 #[.agg #[.int .i64 n0, .int .i64 n1, .int .i64 n2, .int .i64 n3, .int .i64 s, .int .i64 r], reqV q a cap] w fun e w' => e = .returned (.bool true) ∧ More w w' := by
  have HAW := Lib.hid awake24
  have hfe := fun b W (hb : b < W.heap.size) (hm' : More w W) hc => few_any q a cap b W hb (hr.more hm') hm h1 h2 h3 hc
  clear hr hm h1 h2 h3
  obtain ⟨kind, topic, index, parts, compact, flush, offset, most, time, group, member, gen, batch⟩ := q
  obtain ⟨b0, b1, b2, b3, b4, recs⟩ := batch
  obtain ⟨Q, hQ⟩ : ∃ Q : Req, Q = ⟨kind, topic, index, parts, compact, flush, offset, most, time, group, member, gen, ⟨b0, b1, b2, b3, b4, recs⟩⟩ := ⟨_, rfl⟩
  have HFE : Hid (Calls Tryz.prog 4 #[.slice (some ⟨sz w.heap.size [1, 1], 0, none⟩) 1 1, .int .i64 1] (wd w [#[.cells #[.int .u8 0, .int .u8 kind, .string (str topic), .int .i64 index, .int .i64 parts, .bool compact, .bool flush, .int .i64 offset, .int .i64 most, .int .i64 time, .string (str group), .string (str member), .int .i64 gen, .int .i64 b0, .int .i64 b1, .int .i64 b2, .int .i64 b3, .int .i64 b4, .slice a recs.length cap, .int .i64 0] 31],
      #[.cells #[.int .u8 kind, .string (str topic), .int .i64 index, .int .i64 parts, .bool compact, .bool flush, .int .i64 offset, .int .i64 most, .int .i64 time, .string (str group), .string (str member), .int .i64 gen, .int .i64 b0, .int .i64 b1, .int .i64 b2, .int .i64 b3, .int .i64 b4, .slice a recs.length cap] 28],
      #[.cells #[.int .i64 n0, .int .i64 n1, .int .i64 n2, .int .i64 n3, .int .i64 s, .int .i64 r] 23]] w.drawn) fun x w' => FewRet (wd w [#[.cells #[.int .u8 0, .int .u8 kind, .string (str topic), .int .i64 index, .int .i64 parts, .bool compact, .bool flush, .int .i64 offset, .int .i64 most, .int .i64 time, .string (str group), .string (str member), .int .i64 gen, .int .i64 b0, .int .i64 b1, .int .i64 b2, .int .i64 b3, .int .i64 b4, .slice a recs.length cap, .int .i64 0] 31],
      #[.cells #[.int .u8 kind, .string (str topic), .int .i64 index, .int .i64 parts, .bool compact, .bool flush, .int .i64 offset, .int .i64 most, .int .i64 time, .string (str group), .string (str member), .int .i64 gen, .int .i64 b0, .int .i64 b1, .int .i64 b2, .int .i64 b3, .int .i64 b4, .slice a recs.length cap] 28],
      #[.cells #[.int .i64 n0, .int .i64 n1, .int .i64 n2, .int .i64 n3, .int .i64 s, .int .i64 r] 23]] w.drawn) w' x) := by
    refine Lib.hid (hfe _ _ (by rw [wd_size]; simp only [shape, sz]; simp) (more_wd _ _ _) (fun j hj => ?_))
    rw [wd_cell w _ _ w.heap.size _ [1, 1] _ _ (0, 0) rfl rfl]
    exact few_cells (.int .u8 0) (.int .i64 0) (reqCells ⟨kind, topic, index, parts, compact, flush, offset, most, time, group, member, gen, ⟨b0, b1, b2, b3, b4, recs⟩⟩ a cap) j hj
  clear hfe
  simp only [reqV]
  refine Ev.calls_marks Tryz.func3 rfl ?_
  simp only [Tryz.ntmps3, List.size_toArray, List.length_cons, List.length_nil, Nat.reduceAdd, Nat.reduceSub, Array.replicate_succ, Array.replicate_zero, List.push_toArray, List.append_toArray, List.nil_append, List.cons_append]
  show Code.wp _ (Code.seq _ (Code.seq _ Ev.rest24)) _ _ (wd w [] w.drawn)
  go_wp2_with (first
    | (go_at_call 4; ((with_reducible refine (HFE.out).mono ?_); rintro e w2 hq; obtain ⟨k, hk, rfl, x9, n9, rfl⟩ := hq.out; clear hq; rcases hk with rfl | rfl))
    | (go_at_call 5; ((with_reducible refine (HAW.out _).mono ?_); rintro e w1 ⟨rfl, x1, n1, rfl⟩)))
  · have hb0 : (wd w [x9, #[.cells #[.int .u8 0, .int .u8 kind, .string (str topic), .int .i64 index, .int .i64 parts, .bool compact, .bool flush, .int .i64 offset, .int .i64 most, .int .i64 time, .string (str group), .string (str member), .int .i64 gen, .int .i64 b0, .int .i64 b1, .int .i64 b2, .int .i64 b3, .int .i64 b4, .slice a recs.length cap, .int .i64 0] 31],
      #[.cells #[.int .u8 kind, .string (str topic), .int .i64 index, .int .i64 parts, .bool compact, .bool flush, .int .i64 offset, .int .i64 most, .int .i64 time, .string (str group), .string (str member), .int .i64 gen, .int .i64 b0, .int .i64 b1, .int .i64 b2, .int .i64 b3, .int .i64 b4, .slice a recs.length cap] 28],
      #[.cells #[.int .i64 n0, .int .i64 n1, .int .i64 n2, .int .i64 n3, .int .i64 s, .int .i64 r] 23]] n9).heap[sz w.heap.size []]? = some (.cells [.int .i64 n0, .int .i64 n1, .int .i64 n2, .int .i64 n3, .int .i64 s, .int .i64 r].toArray 23) := by
      rw [wd_past w _ n9 w.heap.size [] _ rfl (by simp [shape, inn]), wd_past w _ n9 w.heap.size [] _ rfl (by simp [shape, inn]), wd_past w _ n9 w.heap.size [] _ rfl (by simp [shape, inn]), wd_at w _ n9 w.heap.size [] _ rfl rfl]
    have hb1 : (wd w [x9, #[.cells #[.int .u8 0, .int .u8 kind, .string (str topic), .int .i64 index, .int .i64 parts, .bool compact, .bool flush, .int .i64 offset, .int .i64 most, .int .i64 time, .string (str group), .string (str member), .int .i64 gen, .int .i64 b0, .int .i64 b1, .int .i64 b2, .int .i64 b3, .int .i64 b4, .slice a recs.length cap, .int .i64 0] 31],
      #[.cells #[.int .u8 kind, .string (str topic), .int .i64 index, .int .i64 parts, .bool compact, .bool flush, .int .i64 offset, .int .i64 most, .int .i64 time, .string (str group), .string (str member), .int .i64 gen, .int .i64 b0, .int .i64 b1, .int .i64 b2, .int .i64 b3, .int .i64 b4, .slice a recs.length cap] 28],
      #[.cells #[.int .i64 n0, .int .i64 n1, .int .i64 n2, .int .i64 n3, .int .i64 s, .int .i64 r] 23]] n9).heap[sz w.heap.size [1]]? = some (.cells (reqCells ⟨kind, topic, index, parts, compact, flush, offset, most, time, group, member, gen, ⟨b0, b1, b2, b3, b4, recs⟩⟩ a cap).toArray 28) := by
      rw [wd_past w _ n9 w.heap.size [1] _ rfl (by simp [shape, inn]), wd_past w _ n9 w.heap.size [1] _ rfl (by simp [shape, inn]), wd_at w _ n9 w.heap.size [1] _ rfl rfl]
      rfl
    have hne : sz w.heap.size [] ≠ sz w.heap.size [1] := by simp [sz]
    have hw0 : w.heap.size ≤ sz w.heap.size [] := sz_ge _ _
    have hw1 : w.heap.size ≤ sz w.heap.size [1] := sz_ge _ _
    by_cases g1 : s < 0
    · exact Ev.brest (q := ⟨kind, topic, index, parts, compact, flush, offset, most, time, group, member, gen, ⟨b0, b1, b2, b3, b4, recs⟩⟩) (v := .slice (some ⟨sz w.heap.size [1, 1], 0, none⟩) 1 1) Ev.sneg_run (fun φ h => Ev.conc_rng (n := 89202980794122492556471466533676412626272292) (lo := -9223372036854775808) (hi := -1) (by kernel_rfl) (by kernel_rfl) (by kernel_rfl) (by rw [h, show 89202980794122492556471466533676412626272292 / 8 % 65536 = 4 from by kernel_rfl]; rfl) (by omega) (by omega)) (fun φ h => Ev.conc_rng (n := 178405961588244985122614339624269858650193964) (lo := -9223372036854775808) (hi := 9223372036854775807) (by kernel_rfl) (by kernel_rfl) (by kernel_rfl) (by rw [h, show 178405961588244985122614339624269858650193964 / 8 % 65536 = 5 from by kernel_rfl]; rfl) (by omega) (by omega)) rfl hb0 hb1 hne hw0 hw1 (more_wd _ _ _) 153 rfl
    by_cases g2 : 1073741824 < s
    · exact Ev.brest (q := ⟨kind, topic, index, parts, compact, flush, offset, most, time, group, member, gen, ⟨b0, b1, b2, b3, b4, recs⟩⟩) (v := .slice (some ⟨sz w.heap.size [1, 1], 0, none⟩) 1 1) Ev.sbig_run (fun φ h => Ev.conc_rng (n := 178405961588244985127450042903291325302964260) (lo := 1073741825) (hi := 9223372036854775807) (by kernel_rfl) (by kernel_rfl) (by kernel_rfl) (by rw [h, show 178405961588244985127450042903291325302964260 / 8 % 65536 = 4 from by kernel_rfl]; rfl) (by omega) (by omega)) (fun φ h => Ev.conc_rng (n := 178405961588244985122614339624269858650193964) (lo := -9223372036854775808) (hi := 9223372036854775807) (by kernel_rfl) (by kernel_rfl) (by kernel_rfl) (by rw [h, show 178405961588244985122614339624269858650193964 / 8 % 65536 = 5 from by kernel_rfl]; rfl) (by omega) (by omega)) rfl hb0 hb1 hne hw0 hw1 (more_wd _ _ _) 153 rfl
    by_cases g3 : r < 0
    · exact Ev.brest (q := ⟨kind, topic, index, parts, compact, flush, offset, most, time, group, member, gen, ⟨b0, b1, b2, b3, b4, recs⟩⟩) (v := .slice (some ⟨sz w.heap.size [1, 1], 0, none⟩) 1 1) Ev.rneg_run (fun φ h => Ev.conc_rng (n := 89202980804507086288048231626112955381186596) (lo := 0) (hi := 1073741824) (by kernel_rfl) (by kernel_rfl) (by kernel_rfl) (by rw [h, show 89202980804507086288048231626112955381186596 / 8 % 65536 = 4 from by kernel_rfl]; rfl) (by omega) (by omega)) (fun φ h => Ev.conc_rng (n := 89202980794122492556471466533676412626272300) (lo := -9223372036854775808) (hi := -1) (by kernel_rfl) (by kernel_rfl) (by kernel_rfl) (by rw [h, show 89202980794122492556471466533676412626272300 / 8 % 65536 = 5 from by kernel_rfl]; rfl) (by omega) (by omega)) rfl hb0 hb1 hne hw0 hw1 (more_wd _ _ _) 153 rfl
    by_cases g4 : 1073741824 < r
    · exact Ev.brest (q := ⟨kind, topic, index, parts, compact, flush, offset, most, time, group, member, gen, ⟨b0, b1, b2, b3, b4, recs⟩⟩) (v := .slice (some ⟨sz w.heap.size [1, 1], 0, none⟩) 1 1) Ev.rbig_run (fun φ h => Ev.conc_rng (n := 89202980804507086288048231626112955381186596) (lo := 0) (hi := 1073741824) (by kernel_rfl) (by kernel_rfl) (by kernel_rfl) (by rw [h, show 89202980804507086288048231626112955381186596 / 8 % 65536 = 4 from by kernel_rfl]; rfl) (by omega) (by omega)) (fun φ h => Ev.conc_rng (n := 178405961588244985127450042903291325302964268) (lo := 1073741825) (hi := 9223372036854775807) (by kernel_rfl) (by kernel_rfl) (by kernel_rfl) (by rw [h, show 178405961588244985127450042903291325302964268 / 8 % 65536 = 5 from by kernel_rfl]; rfl) (by omega) (by omega)) rfl hb0 hb1 hne hw0 hw1 (more_wd _ _ _) 153 rfl
    exact Ev.brest (q := ⟨kind, topic, index, parts, compact, flush, offset, most, time, group, member, gen, ⟨b0, b1, b2, b3, b4, recs⟩⟩) (v := .slice (some ⟨sz w.heap.size [1, 1], 0, none⟩) 1 1) Ev.good_run (fun φ h => Ev.conc_rng (n := 89202980804507086288048231626112955381186596) (lo := 0) (hi := 1073741824) (by kernel_rfl) (by kernel_rfl) (by kernel_rfl) (by rw [h, show 89202980804507086288048231626112955381186596 / 8 % 65536 = 4 from by kernel_rfl]; rfl) (by omega) (by omega)) (fun φ h => Ev.conc_rng (n := 89202980804507086288048231626112955381186604) (lo := 0) (hi := 1073741824) (by kernel_rfl) (by kernel_rfl) (by kernel_rfl) (by rw [h, show 89202980804507086288048231626112955381186604 / 8 % 65536 = 5 from by kernel_rfl]; rfl) (by omega) (by omega)) rfl hb0 hb1 hne hw0 hw1 (more_wd _ _ _) 153 rfl
  · exact ⟨_, results_tmp rfl _ _ _, rfl, more_wd _ _ _⟩
end Go.Proofs.YtmeflkagldebiaaGreat
