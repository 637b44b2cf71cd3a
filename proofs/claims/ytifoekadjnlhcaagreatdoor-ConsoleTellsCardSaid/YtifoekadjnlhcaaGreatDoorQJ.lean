/- ConsoleTells: the law's walk (printed by gen/ctm.py). -/
import Derived.Test.YtifoekadjnlhcaaGreatDoorQF
import Derived.Test.YtifoekadjnlhcaaGreatDoorQI
import Derived.Test.YtifoekadjnlhcaaGreatDoorQH
namespace Go.Proofs.YtifoekadjnlhcaaGreatDoor
open Go.ChangeShapes Go.WideShapes Go.ChangeAt Go.RowKit
set_option linter.unusedVariables false
set_option linter.unusedSimpArgs false
theorem set_fold (l : List Value) : ∀ (k : Nat) (C : Array Value) (i : Nat), k + l.length ≤ C.size → ((l.zipIdx k).foldl (fun cs x => cs.setIfInBounds x.2 x.1) C)[i]? = if k ≤ i ∧ i < k + l.length then l[i - k]? else C[i]? := by
  induction l with
  | nil => intro k C i _; rw [if_neg (by simp)]; rfl
  | cons x l ih =>
    intro k C i hk
    rw [List.length_cons] at hk ⊢
    rw [List.zipIdx_cons, List.foldl_cons, ih (k + 1) _ i (by rw [Array.size_setIfInBounds]; omega)]
    by_cases h1 : i = k
    · subst h1
      rw [if_neg (by omega), if_pos (by omega), Nat.sub_self, Array.getElem?_setIfInBounds, if_pos rfl, if_pos (by omega)]; rfl
    · by_cases h2 : k ≤ i ∧ i < k + (l.length + 1)
      · rw [if_pos (by omega), if_pos h2, show i - k = (i - (k + 1)) + 1 by omega]; rfl
      · rw [if_neg (by omega), if_neg h2, Array.getElem?_setIfInBounds, if_neg (by omega)]
theorem fill_all (A C : Array Value) (h : C.size = A.size) (n : Nat) (hn : n = A.size) : Array.foldl (fun cs (x : Value × Nat) => cs.setIfInBounds x.snd x.fst) C A.zipIdx 0 n = A := by
  have e : n = A.zipIdx.size := by simp [hn]
  rw [e, ← Array.foldl_toList, Array.toList_zipIdx]
  apply Array.ext_getElem?
  intro i
  rw [set_fold _ 0 C i (by simp [h])]
  split
  · simp
  · rename_i h2
    rw [Array.getElem?_eq_none (by simp at h2; omega), Array.getElem?_eq_none (by simp at h2; omega)]
@[go_sem] theorem fill_stp (s : Stp) (a : Option Addr) (cap : Nat) (f : Option Addr) (fc : Nat) (C : Array Value) (h : C.size = 22) : Array.foldl (fun cs (x : Value × Nat) => cs.setIfInBounds x.snd x.fst) C (stp s a cap f fc).zipIdx 0 22 = stp s a cap f fc :=
  fill_all _ _ (by rw [stp_size]; exact h) _ (stp_size _ _ _ _ _).symm
theorem cls_on (w : World) : ∀ (M : List (Array Obj)) (x0 : Array Obj) (L : List (Array Obj)) (n : Nat), ∃ m : Ext, wd w (M ++ x0 :: L) n = wd w (m.e :: L) m.n
  | [], x0, L, n => ⟨⟨x0, n⟩, rfl⟩
  | y :: M, x0, L, n => by
    obtain ⟨m, h⟩ := cls_on w M x0 L n
    refine ⟨⟨m.e ++ y, n⟩, ?_⟩
    show wd w (y :: (M ++ x0 :: L)) n = _
    rw [← wd_plus w (M ++ x0 :: L) n n y, h, wd_plus, wd_merge]
theorem cls_two (w : World) (a b : Array Obj) (L : List (Array Obj)) (n : Nat) : ∃ m : Ext, wd w (a :: b :: L) n = wd w (m.e :: L) m.n := ⟨⟨b ++ a, n⟩, wd_merge _ _ _ _ _⟩
theorem nrd_more {w w' : World} {a : Option Addr} {ws : List Word} (h : NRd w a ws) (hm : More w w') : NRd w' a ws := ⟨fun hne => by
  obtain ⟨b, off, ha, hb, hc⟩ := h.out hne
  have bel := hm.below
  exact ⟨b, off, ha, Nat.lt_of_lt_of_le hb bel.size, fun i s hs => by rw [bel.cell hb]; exact hc i s hs⟩, h.len⟩
set_option maxRecDepth 100000 in
set_option maxHeartbeats 3200000 in
theorem tells_walk (s : Stp) (a : Option Addr) (c : Nat) (f : Option Addr) (fc : Nat) (k0 er off nx : Int) (db : Bool) (ge : Int) (ad : Option Addr) (cap : Nat) (l : List Btm) (pa : Option Addr) (pc : Nat) (ps : List Int) (na : Option Addr) (nc : Nat) (ns : List Word) (e : Int) (he1 : 0 ≤ e) (he2 : e < 256) (w : World) (hs : StpAt w s a f fc) (hlen : StpLen s) (hR : RspAt w ⟨k0, er, off, nx, db, ge, ad, cap, l, pa, pc, ps, na, nc, ns⟩) :
    Calls Tryz.prog 4 #[.agg (stp s a c f fc), .agg #[.int .u8 k0, .int .i64 er, .int .i64 off, .int .i64 nx, .bool db, .int .i64 ge, .slice ad l.length cap, .slice pa ps.length pc, .slice na ns.length nc], .int .u8 e] w fun x w' => x = .returned (.bool true) ∧ More w w' := by
  have HL1 := Lib.hid (fun n => light_one s a c f fc w #[.cells #[.int .u8 k0, .int .i64 er, .int .i64 off, .int .i64 nx, .bool db, .int .i64 ge, .slice ad l.length cap, .slice pa ps.length pc, .slice na ns.length nc] 46] #[.cells (stp s a c f fc) 34] n hlen hs.r)
  have HL2 := Lib.hid (fun W (hm : More w W) => lightresp_any k0 er off nx db ge ad cap l pa ps.length pc na nc ns W (hR.bats.more hm) hR.rl hR.kv hR.ll (by obtain ⟨_, _, h0, h1, h2, _⟩ := hR.parts.out; cases h0; exact Nat.le_trans h1 h2) (nrd_more hR.names hm) (Nat.le_trans hR.nl hR.nm))
  have HL3 := Lib.hid (fun W (hm : More w W) => tame_any k0 er off nx db ge ad cap l pa pc ps (.slice na ns.length nc) W (hR.bats.more hm) hR.rl hR.ll (hR.parts.more hm))
  have HTOLD : Hid ((ps.length ≤ 80 ∧ ns.length ≤ 80 ∧ (l.length ≤ 70 ∧ ∀ y ∈ l, Small y.b) ∧ ∀ s ∈ ns, s.length ≤ 400) → Tm off nx ge ps l → ∀ W, More w W →
      (Calls Tryz.prog 18 #[.agg (stp s a c f fc), .agg #[.int .u8 k0, .int .i64 er, .int .i64 off, .int .i64 nx, .bool db, .int .i64 ge, .slice ad l.length cap, .slice pa ps.length pc, .slice na ns.length nc], .int .i64 e] W fun x w' => LinesRet W w' x (toldL s.kind s.q.kind e off nx db ge l ps ns)) ∧
      (Calls Tryz.prog 19 #[.agg (stp s a c f fc), .agg #[.int .u8 k0, .int .i64 er, .int .i64 off, .int .i64 nx, .bool db, .int .i64 ge, .slice ad l.length cap, .slice pa ps.length pc, .slice na ns.length nc], .int .i64 e] W fun x w' => LinesRet W w' x (toldL s.kind s.q.kind e off nx db ge l ps ns))) := Lib.hid (fun h1 h2 W hm => by
    obtain ⟨g1, g2, ⟨g3, g4⟩, g5⟩ := h1
    obtain ⟨⟨t1, t2, t3⟩, t4, t5⟩ := h2
    have hM : Mild l := ⟨g3, fun x hx => (g4 x hx).1, fun x hx => (g4 x hx).2, fun x hx => (t5 x hx).1, fun x hx => (t5 x hx).2⟩
    have hT : Told1 off nx ge ps ns := ⟨t1, t2, t3, g1, fun n hn => bd_of (t4 n hn), g2, g5⟩
    have hN := (NRd.srd hR.names hR.nl hR.nm g5).more hm
    exact ⟨told_any s a f c fc e he1 he2 k0 er off nx db ge ad cap l _ _ ps ns W (hR.bats.more hm) hM (hR.parts.more hm) hN hT, rtold_any s a f c fc e he1 he2 k0 er off nx db ge ad cap l _ _ ps ns W (hR.bats.more hm) hM (hR.parts.more hm) hN hT⟩)
  clear hs hlen hR
  refine calls_wd ?_
  go_enter Tryz.func4, Tryz.ntmps4
  go_wp2_with (first
    | (go_at_call 15; refine (HL1.out _).mono ?_; rintro e1 w1 hs; obtain ⟨b1, x9, n9, rfl, rfl⟩ := hs.out; clear hs; cases b1)
    | (go_at_call 16; refine (HL2.out _ (more_wd _ _ _)).mono ?_; rintro e1 w1 hs; obtain ⟨b2, rfl, ⟨x8, n8, rfl⟩, hb2⟩ := hs.out; have HB2 := Lib.hid hb2; clear hs hb2; cases b2)
    | (go_at_call 17; refine (HL3.out _ (more_wd _ _ _)).mono ?_; rintro e1 w1 hs; obtain ⟨b3, rfl, ⟨x7, n7, rfl⟩, hb3⟩ := hs.out; have HB3 := Lib.hid hb3; clear hs hb3; cases b3)
    | (go_at_call 6; ((with_reducible refine (awake28 _).mono ?_); rintro e w1 ⟨rfl, x1, n1, rfl⟩)))
  all_goals try (go_ret; exact ⟨rfl, more_wd _ _ _⟩)
  have HTO := Lib.hid (HTOLD.out (HB2.out (by trivial)) (HB3.out (by trivial)))
  obtain ⟨ls, hls⟩ : ∃ ls, toldL s.kind s.q.kind e off nx db ge l ps ns = ls := ⟨_, rfl⟩
  rw [hls] at HTO
  clear HTOLD HB2 HB3 hls HL1 HL2 HL3
  obtain ⟨m0, hm0⟩ := cls_on w [x7, x8, x9] #[.cells (stp s a c f fc) 34] [#[.cells #[.int .u8 k0, .int .i64 er, .int .i64 off, .int .i64 nx, .bool db, .int .i64 ge, .slice ad l.length cap, .slice pa ps.length pc, .slice na ns.length nc] 46], #[.cells (stp s a c f fc) 34]] n7
  rw [show wd w [x7, x8, x9, #[.cells (stp s a c f fc) 34], #[.cells #[.int .u8 k0, .int .i64 er, .int .i64 off, .int .i64 nx, .bool db, .int .i64 ge, .slice ad l.length cap, .slice pa ps.length pc, .slice na ns.length nc] 46], #[.cells (stp s a c f fc) 34]] n7 = _ from hm0]
  clear hm0
  refine wp_region_chain (fun (m : Ext) => wd w [m.e, #[.cells #[.int .u8 k0, .int .i64 er, .int .i64 off, .int .i64 nx, .bool db, .int .i64 ge, .slice ad l.length cap, .slice pa ps.length pc, .slice na ns.length nc] 46], #[.cells (stp s a c f fc) 34]] m.n) (⟨m0.e, m0.n + 1⟩) [([0, 1, 2, 3, 5, 6, 7, 8], 4), ([], 9), ([], 10), ([11], 12)] [13, 14] [([true, true, true, true, false, true, true, true, true], [false, false, false, false, true]), ([], [false, false, false, false, false, false, false, false, false, true]), ([], [false, false, false, false, false, false, false, false, false, false, true]), ([false, false, false, false, false, false, false, false, false, false, false, true], [false, false, false, false, false, false, false, false, false, false, false, false, true])] [false, false, false, false, false, false, false, false, false, false, false, false, false, true, true] rfl rfl ⟨rfl, rfl, rfl, rfl, rfl, rfl, rfl, rfl, trivial⟩ (by kernel_rfl) (by kernel_rfl) (fun _ _ d _ _ h => by cases d <;> exact h) ?_
  refine ⟨rfl, ?_⟩
  apply Exists.intro
  refine ⟨?_, ?_⟩
  · intro E
    simp only [sel_t, sel_f, sel_n]
    repeat (go_big_quiet_step ((fail)))
    exact wpQuiet_nil rfl
  simp only [sel_t, sel_f, sel_n]
  go_wp2_with (go_at_call 18; refine ((HTO.out _ (more_wd _ _ _)).1).mono ?_; rintro e1 w1 hs; obtain ⟨v5, x5, n5, rfl, rfl, hsr⟩ := hs.out; rw [wd_plus] at hsr; have HS5 := Lib.hid (fun W hm => hsr.more (w' := W) hm); obtain ⟨a5, c5, rfl, -, -, -⟩ := hsr.out; clear hs hsr)
  refine ⟨cls_two _ _ _ _ _, ?_⟩
  refine ⟨rfl, ?_⟩
  apply Exists.intro
  refine ⟨?_, ?_⟩
  · intro E
    simp only [sel_t, sel_f, sel_n]
    repeat (go_big_quiet_step ((fail)))
    exact wpQuiet_nil rfl
  try simp only [sel_t, sel_f, sel_n]
  go_wp2_with (go_at_call 19; refine ((HTO.out _ (more_wd _ _ _)).2).mono ?_; rintro e1 w1 hs; obtain ⟨v6, x6, n6, rfl, rfl, hsr⟩ := hs.out; rw [wd_plus] at hsr; have HS6 := Lib.hid (fun W hm => hsr.more (w' := W) hm); obtain ⟨a6, c6, rfl, -, -, -⟩ := hsr.out; clear hs hsr)
  refine ⟨cls_on w [_, _] _ _ _, ?_⟩
  refine ⟨rfl, ?_⟩
  apply Exists.intro
  refine ⟨?_, ?_⟩
  · intro E
    simp only [sel_t, sel_f, sel_n]
    repeat (go_big_quiet_step ((fail)))
    exact wpQuiet_nil rfl
  try simp only [sel_t, sel_f, sel_n]
  go_wp2_with (first | (go_at_call 10; ((with_reducible refine (sames_eq _ _ _ _ (HS5.out _ (by first | exact more_same _ _ _ _ | exact more_cons (more_same _ _ _ _))) (HS6.out _ (by first | exact more_same _ _ _ _ | exact more_cons (more_same _ _ _ _)))).mono ?_); rintro e w1 ⟨rfl, x1, n1, rfl⟩)))
  refine ⟨cls_on w [_, _, _] _ _ _, ?_⟩
  refine ⟨rfl, ?_⟩
  apply Exists.intro
  refine ⟨?_, ?_⟩
  · intro E
    simp only [sel_t, sel_f, sel_n]
    repeat (go_big_quiet_step ((fail)))
    exact wpQuiet_nil rfl
  try simp only [sel_t, sel_f, sel_n]
  go_wp2_with (first | (go_at_call 6; ((with_reducible refine (awake28 _).mono ?_); rintro e w1 ⟨rfl, x1, n1, rfl⟩)))
  refine ⟨cls_on w [_, _, _, _] _ _ _, ?_⟩
  refine ⟨rfl, ?_⟩
  apply Exists.intro
  refine ⟨?_, ?_⟩
  · intro E
    simp only [sel_t, sel_f, sel_n]
    repeat (go_big_quiet_step ((fail)))
    exact wpQuiet_nil rfl
  try simp only [sel_t, sel_f, sel_n]
  all_goals try go_wp2
  all_goals go_ret
  all_goals exact ⟨rfl, more_wd _ _ _⟩
end Go.Proofs.YtifoekadjnlhcaaGreatDoor
