/- The statement WorldNobody, proved: whatever the numbers are, the law's call is run by the engine. No condition. -/
import Derived.Test.YtmlianelfokkoaaGreatMA
import Derived.Test.YtmlianelfokkoaaGreatWB
import Derived.Test.YtmlianelfokkoaaGreatWC
import Derived.Test.YtmlianelfokkoaaGreatWD
import Derived.Test.YtmlianelfokkoaaGreatWE
import Derived.Test.YtmlianelfokkoaaGreatWF
import Derived.Test.YtmlianelfokkoaaGreatWG
import Derived.Test.YtmlianelfokkoaaGreatWH
import Derived.Test.YtmlianelfokkoaaGreatWI
import Derived.Test.YtmlianelfokkoaaGreatWJ
import Derived.Test.YtmlianelfokkoaaGreatWN
import Derived.Test.YtmlianelfokkoaaGreatWO
namespace Go.Proofs.YtmlianelfokkoaaGreat
open Go.ChangeShapes Go.WideShapes Go.ChangeAt Go.RowKit
set_option linter.unusedVariables false
set_option linter.unusedSimpArgs false
set_option maxRecDepth 100000
namespace Ev
theorem conc_rng {φ : Phi} {n : Nat} {m lo hi : Int} (h4 : n % 8 = 4) (hl : tokLo (n / 8) = lo) (hh : tokHi (n / 8) = hi) (ho : tokOff (n / 8) = 0) (he : φ.env (n / 8 % 256) = some (.int .i64 m)) (h1 : lo ≤ m) (h2 : m ≤ hi) : conc φ (.float .f64 n) = some (.int .i64 m) := by
  have e : tok φ.env n = some (.int .i64 m) := by
    unfold tok
    rw [if_neg (by omega), if_neg (by omega), if_neg (by omega), if_neg (by omega), if_pos h4, he]
    simp only
    rw [hl, hh, ho, Int.sub_zero, if_pos ⟨h1, h2⟩]
  simp only [conc, e]
  rfl
theorem zr_all {z : Int} (h1 : 4 ≤ z) (h2 : z ≤ 64) : zr (.int .i64 z) = true := by
  by_cases h4 : z = 4
  · subst h4; exact z4_run
  by_cases h5 : z = 5
  · subst h5; exact z5_run
  by_cases h6 : z = 6
  · subst h6; exact z6_run
  by_cases h7 : z = 7
  · subst h7; exact z7_run
  by_cases h8 : z = 8
  · subst h8; exact z8_run
  by_cases h9 : z = 9
  · subst h9; exact z9_run
  by_cases h10 : z = 10
  · subst h10; exact z10_run
  by_cases h11 : z = 11
  · subst h11; exact z11_run
  by_cases h12 : z = 12
  · subst h12; exact z12_run
  by_cases h13 : z = 13
  · subst h13; exact z13_run
  by_cases h14 : z = 14
  · subst h14; exact z14_run
  by_cases h15 : z = 15
  · subst h15; exact z15_run
  by_cases h16 : z = 16
  · subst h16; exact z16_run
  by_cases h17 : z = 17
  · subst h17; exact z17_run
  by_cases h18 : z = 18
  · subst h18; exact z18_run
  by_cases h19 : z = 19
  · subst h19; exact z19_run
  by_cases h20 : z = 20
  · subst h20; exact z20_run
  by_cases h21 : z = 21
  · subst h21; exact z21_run
  by_cases h22 : z = 22
  · subst h22; exact z22_run
  by_cases h23 : z = 23
  · subst h23; exact z23_run
  by_cases h24 : z = 24
  · subst h24; exact z24_run
  by_cases h25 : z = 25
  · subst h25; exact z25_run
  by_cases h26 : z = 26
  · subst h26; exact z26_run
  by_cases h27 : z = 27
  · subst h27; exact z27_run
  by_cases h28 : z = 28
  · subst h28; exact z28_run
  by_cases h29 : z = 29
  · subst h29; exact z29_run
  by_cases h30 : z = 30
  · subst h30; exact z30_run
  by_cases h31 : z = 31
  · subst h31; exact z31_run
  by_cases h32 : z = 32
  · subst h32; exact z32_run
  by_cases h33 : z = 33
  · subst h33; exact z33_run
  by_cases h34 : z = 34
  · subst h34; exact z34_run
  by_cases h35 : z = 35
  · subst h35; exact z35_run
  by_cases h36 : z = 36
  · subst h36; exact z36_run
  by_cases h37 : z = 37
  · subst h37; exact z37_run
  by_cases h38 : z = 38
  · subst h38; exact z38_run
  by_cases h39 : z = 39
  · subst h39; exact z39_run
  by_cases h40 : z = 40
  · subst h40; exact z40_run
  by_cases h41 : z = 41
  · subst h41; exact z41_run
  by_cases h42 : z = 42
  · subst h42; exact z42_run
  by_cases h43 : z = 43
  · subst h43; exact z43_run
  by_cases h44 : z = 44
  · subst h44; exact z44_run
  by_cases h45 : z = 45
  · subst h45; exact z45_run
  by_cases h46 : z = 46
  · subst h46; exact z46_run
  by_cases h47 : z = 47
  · subst h47; exact z47_run
  by_cases h48 : z = 48
  · subst h48; exact z48_run
  by_cases h49 : z = 49
  · subst h49; exact z49_run
  by_cases h50 : z = 50
  · subst h50; exact z50_run
  by_cases h51 : z = 51
  · subst h51; exact z51_run
  by_cases h52 : z = 52
  · subst h52; exact z52_run
  by_cases h53 : z = 53
  · subst h53; exact z53_run
  by_cases h54 : z = 54
  · subst h54; exact z54_run
  by_cases h55 : z = 55
  · subst h55; exact z55_run
  by_cases h56 : z = 56
  · subst h56; exact z56_run
  by_cases h57 : z = 57
  · subst h57; exact z57_run
  by_cases h58 : z = 58
  · subst h58; exact z58_run
  by_cases h59 : z = 59
  · subst h59; exact z59_run
  by_cases h60 : z = 60
  · subst h60; exact z60_run
  by_cases h61 : z = 61
  · subst h61; exact z61_run
  by_cases h62 : z = 62
  · subst h62; exact z62_run
  by_cases h63 : z = 63
  · subst h63; exact z63_run
  by_cases h64 : z = 64
  · subst h64; exact z64_run
  omega
def envW (m : Nat → Int) : Nat → Option Value := fun i => some (.int .i64 (m i))
theorem concL_w {φ : Phi} {m : Nat → Int} (h : φ.env = envW m) {Z B S R : Value} (hZ : conc φ Z = some (.int .i64 (m 6))) (hB : conc φ B = some (.int .i64 (m 7))) (hS : conc φ S = some (.int .i64 (m 4))) (hR : conc φ R = some (.int .i64 (m 5))) :
    concL φ [Z, B, .agg ⟨[.float .f64 0, .float .f64 8, .float .f64 16, .float .f64 24, S, R]⟩] = some [.int .i64 (m 6), .int .i64 (m 7), .agg #[.int .i64 (m 0), .int .i64 (m 1), .int .i64 (m 2), .int .i64 (m 3), .int .i64 (m 4), .int .i64 (m 5)]] := by
  have t : ∀ i, i < 65536 → conc φ (.float .f64 (8 * i)) = some (.int .i64 (m i)) := fun i hi => by
    have e : tok φ.env (8 * i) = some (.int .i64 (m i)) := by
      simp [tok, h, envW, oneCell, Nat.mod_eq_of_lt hi]
    simp only [conc, e]; rfl
  have t0 := t 0 (by decide)
  have t1 := t 1 (by decide)
  have t2 := t 2 (by decide)
  have t3 := t 3 (by decide)
  simp only [Nat.reduceMul] at t0 t1 t2 t3
  have agg : ∀ {L M : List Value}, concL φ L = some M → conc φ (.agg ⟨L⟩) = some (.agg M.toArray) := fun {L M} hL => by simp only [conc]; rw [hL]; rfl
  have cons : ∀ {x y : Value} {L M : List Value}, conc φ x = some y → concL φ L = some M → concL φ (x :: L) = some (y :: M) := fun {x y L M} hx hL => by simp only [concL]; rw [hx, hL]
  have nil : concL φ [] = some [] := rfl
  exact cons hZ (cons hB (cons (agg (cons t0 (cons t1 (cons t2 (cons t3 (cons hS (cons hR nil))))))) nil))
end Ev
theorem cells_of : Tryz.prog.cellsOf 3 = 1 ∧ Tryz.prog.cellsOf 23 = 6 := by refine ⟨?_, ?_⟩ <;> kernel_rfl
theorem i64_wf {n : Int} (h : (Lit.int .i64 n).wf = true) : -9223372036854775808 ≤ n ∧ n ≤ 9223372036854775807 := by
  simp only [Lit.wf, Bool.and_eq_true, decide_eq_true_eq] at h
  exact h
theorem okWide_agg {P : Program} {w : World} {r : Reach} {b : Nat} {t : TypeId} {fs : Array Field} {v : Value} (ht : P.underlying t = some (.struct fs)) (h : Value.okWide P w r b t v) : ∃ cs, v = .agg cs ∧ cs.size = P.cellsOf t := by
  simp only [Value.okWide, ht] at h
  obtain ⟨cs, h1, h2, _⟩ := h
  exact ⟨cs, h1, h2⟩
theorem six_of {l : List Value} (h : l.length = 6) : ∃ a b c d e f, l = [a, b, c, d, e, f] := by
  match l, h with
  | [a, b, c, d, e, f], _ => exact ⟨a, b, c, d, e, f, rfl⟩
theorem cfg_rd {w : World} {r : Reach} {b : Nat} {v : Value} (hk : Value.okWide Tryz.prog w r b 23 v) (h : Rd Tryz.prog w 23 v.cells.toList) :
    ∃ n0 n1 n2 n3 n4 n5 : Int, v = .agg #[.int .i64 n0, .int .i64 n1, .int .i64 n2, .int .i64 n3, .int .i64 n4, .int .i64 n5] ∧ (-9223372036854775808 ≤ n4 ∧ n4 ≤ 9223372036854775807) ∧ (-9223372036854775808 ≤ n5 ∧ n5 ≤ 9223372036854775807) := by
  obtain ⟨ci, cc⟩ := cells_of
  obtain ⟨cs, rfl, hsz⟩ := okWide_agg Tryz.underlying23 hk
  obtain ⟨_, hf⟩ := h.struct Tryz.underlying23
  rw [cc] at hsz
  obtain ⟨d0, d1, d2, d3, d4, d5, hcs⟩ := six_of (l := cs.toList) (by rw [Array.length_toList]; exact hsz)
  have ecs : cs = #[d0, d1, d2, d3, d4, d5] := by apply Array.toList_inj.1; rw [hcs]
  subst ecs
  obtain ⟨n0, e0, w0⟩ := (hf 0 _ rfl).int Tryz.underlying3
  obtain ⟨n1, e1, w1⟩ := (hf 1 _ rfl).int Tryz.underlying3
  obtain ⟨n2, e2, w2⟩ := (hf 2 _ rfl).int Tryz.underlying3
  obtain ⟨n3, e3, w3⟩ := (hf 3 _ rfl).int Tryz.underlying3
  obtain ⟨n4, e4, w4⟩ := (hf 4 _ rfl).int Tryz.underlying3
  obtain ⟨n5, e5, w5⟩ := (hf 5 _ rfl).int Tryz.underlying3
  simp [Value.cells, ci] at e0 e1 e2 e3 e4 e5
  exact ⟨n0, n1, n2, n3, n4, n5, by rw [e0, e1, e2, e3, e4, e5], i64_wf w4, i64_wf w5⟩
theorem wnob_any (m : Nat → Int) (hm : ∀ i, 4 ≤ i → i ≤ 7 → -9223372036854775808 ≤ m i ∧ m i ≤ 9223372036854775807) (w : World) :
    Calls Tryz.prog 3 #[.int .i64 (m 6), .int .i64 (m 7), .agg #[.int .i64 (m 0), .int .i64 (m 1), .int .i64 (m 2), .int .i64 (m 3), .int .i64 (m 4), .int .i64 (m 5)]] w fun e w' => e = .returned (.bool true) ∧ More w w' := by
  have b4 := hm 4 (by decide) (by decide)
  have b5 := hm 5 (by decide) (by decide)
  have b6 := hm 6 (by decide) (by decide)
  have b7 := hm 7 (by decide) (by decide)
  have I : ∀ (n i : Nat) (lo hi : Int), n % 8 = 4 → Ev.tokLo (n / 8) = lo → Ev.tokHi (n / 8) = hi → n / 8 % 256 = i → Ev.tokOff (n / 8) = 0 → lo ≤ m i → m i ≤ hi → Ev.conc ⟨fun _ => none, Ev.envW m⟩ (.float .f64 n) = some (.int .i64 (m i)) := by
    intro n i lo hi h4 hl hh hi0 ho h1 h2
    exact Ev.conc_rng h4 hl hh ho (by rw [hi0]; rfl) h1 h2
  have key : ∀ {Z B S R : Value}, Ev.runW Z B S R = true → Ev.conc ⟨fun _ => none, Ev.envW m⟩ Z = some (.int .i64 (m 6)) → Ev.conc ⟨fun _ => none, Ev.envW m⟩ B = some (.int .i64 (m 7)) → Ev.conc ⟨fun _ => none, Ev.envW m⟩ S = some (.int .i64 (m 4)) → Ev.conc ⟨fun _ => none, Ev.envW m⟩ R = some (.int .i64 (m 5)) →
      Calls Tryz.prog 3 #[.int .i64 (m 6), .int .i64 (m 7), .agg #[.int .i64 (m 0), .int .i64 (m 1), .int .i64 (m 2), .int .i64 (m 3), .int .i64 (m 4), .int .i64 (m 5)]] w fun e w' => e = .returned (.bool true) ∧ More w w' := by
    intro Z B S R hr hZ hB hS hR
    obtain ⟨H, h⟩ := Ev.of_isOk hr
    exact Ev.call_more Ev.follows Ev.fnA_ok 3000 h rfl (Ev.envW m) (Ev.concL_w rfl hZ hB hS hR) w
  have all : ∀ {Z B : Value}, Ev.cr Z B = true → Ev.conc ⟨fun _ => none, Ev.envW m⟩ Z = some (.int .i64 (m 6)) → Ev.conc ⟨fun _ => none, Ev.envW m⟩ B = some (.int .i64 (m 7)) →
      Calls Tryz.prog 3 #[.int .i64 (m 6), .int .i64 (m 7), .agg #[.int .i64 (m 0), .int .i64 (m 1), .int .i64 (m 2), .int .i64 (m 3), .int .i64 (m 4), .int .i64 (m 5)]] w fun e w' => e = .returned (.bool true) ∧ More w w' := by
    intro Z B hr hZ hB
    unfold Ev.cr at hr
    simp only [Bool.and_eq_true] at hr
    obtain ⟨q1, q2, q3, q4, q5⟩ := hr
    by_cases g1 : m 4 < 0
    · exact key q1 hZ hB (I 89202980794122492556471466533676412626272292 4 (-9223372036854775808) (-1) (by kernel_rfl) (by kernel_rfl) (by kernel_rfl) (by kernel_rfl) (by kernel_rfl) (by omega) (by omega)) (I 178405961588244985122614339624269858650193964 5 (-9223372036854775808) (9223372036854775807) (by kernel_rfl) (by kernel_rfl) (by kernel_rfl) (by kernel_rfl) (by kernel_rfl) (by omega) (by omega))
    by_cases g2 : 1073741824 < m 4
    · exact key q2 hZ hB (I 178405961588244985127450042903291325302964260 4 (1073741825) (9223372036854775807) (by kernel_rfl) (by kernel_rfl) (by kernel_rfl) (by kernel_rfl) (by kernel_rfl) (by omega) (by omega)) (I 178405961588244985122614339624269858650193964 5 (-9223372036854775808) (9223372036854775807) (by kernel_rfl) (by kernel_rfl) (by kernel_rfl) (by kernel_rfl) (by kernel_rfl) (by omega) (by omega))
    by_cases g3 : m 5 < 0
    · exact key q3 hZ hB (I 89202980804507086288048231626112955381186596 4 (0) (1073741824) (by kernel_rfl) (by kernel_rfl) (by kernel_rfl) (by kernel_rfl) (by kernel_rfl) (by omega) (by omega)) (I 89202980794122492556471466533676412626272300 5 (-9223372036854775808) (-1) (by kernel_rfl) (by kernel_rfl) (by kernel_rfl) (by kernel_rfl) (by kernel_rfl) (by omega) (by omega))
    by_cases g4 : 1073741824 < m 5
    · exact key q4 hZ hB (I 89202980804507086288048231626112955381186596 4 (0) (1073741824) (by kernel_rfl) (by kernel_rfl) (by kernel_rfl) (by kernel_rfl) (by kernel_rfl) (by omega) (by omega)) (I 178405961588244985127450042903291325302964268 5 (1073741825) (9223372036854775807) (by kernel_rfl) (by kernel_rfl) (by kernel_rfl) (by kernel_rfl) (by kernel_rfl) (by omega) (by omega))
    exact key q5 hZ hB (I 89202980804507086288048231626112955381186596 4 (0) (1073741824) (by kernel_rfl) (by kernel_rfl) (by kernel_rfl) (by kernel_rfl) (by kernel_rfl) (by omega) (by omega)) (I 89202980804507086288048231626112955381186604 5 (0) (1073741824) (by kernel_rfl) (by kernel_rfl) (by kernel_rfl) (by kernel_rfl) (by kernel_rfl) (by omega) (by omega))
  by_cases h1 : m 6 < 4
  · exact all Ev.zneg_run (I 89202980794122492595157092761344546216869940 6 (-9223372036854775808) (3) (by kernel_rfl) (by kernel_rfl) (by kernel_rfl) (by kernel_rfl) (by kernel_rfl) (by omega) (by omega)) (I 178405961588244985122614339624269858650193980 7 (-9223372036854775808) (9223372036854775807) (by kernel_rfl) (by kernel_rfl) (by kernel_rfl) (by kernel_rfl) (by kernel_rfl) (by omega) (by omega))
  by_cases h2 : 64 < m 6
  · exact all Ev.zbig_run (I 178405961588244985127450042902728375383097396 6 (65) (9223372036854775807) (by kernel_rfl) (by kernel_rfl) (by kernel_rfl) (by kernel_rfl) (by kernel_rfl) (by omega) (by omega)) (I 178405961588244985122614339624269858650193980 7 (-9223372036854775808) (9223372036854775807) (by kernel_rfl) (by kernel_rfl) (by kernel_rfl) (by kernel_rfl) (by kernel_rfl) (by omega) (by omega))
  by_cases h3 : m 7 < 4
  · exact all Ev.bneg_run (I 89202980794122493189948596011742100174405684 6 (4) (64) (by kernel_rfl) (by kernel_rfl) (by kernel_rfl) (by kernel_rfl) (by kernel_rfl) (by omega) (by omega)) (I 89202980794122492595157092761344546216869948 7 (-9223372036854775808) (3) (by kernel_rfl) (by kernel_rfl) (by kernel_rfl) (by kernel_rfl) (by kernel_rfl) (by omega) (by omega))
  by_cases h4 : 256 < m 7
  · exact all Ev.bbig_run (I 89202980794122493189948596011742100174405684 6 (4) (64) (by kernel_rfl) (by kernel_rfl) (by kernel_rfl) (by kernel_rfl) (by kernel_rfl) (by omega) (by omega)) (I 178405961588244985127450042902728375483760700 7 (257) (9223372036854775807) (by kernel_rfl) (by kernel_rfl) (by kernel_rfl) (by kernel_rfl) (by kernel_rfl) (by omega) (by omega))
  exact all (Ev.zr_all (z := m 6) (by omega) (by omega)) rfl (I 89202980794122495046858654939812512523092028 7 (4) (256) (by kernel_rfl) (by kernel_rfl) (by kernel_rfl) (by kernel_rfl) (by kernel_rfl) (by omega) (by omega))
theorem wnob_rd {base : Nat} {w : World} (v0 v1 v2 : Value) (k0 : Value.okWide Tryz.prog w .any base 3 v0) (k1 : Value.okWide Tryz.prog w .any base 3 v1) (k2 : Value.okWide Tryz.prog w .any base 23 v2)
    (r0 : Rd Tryz.prog w 3 v0.cells.toList) (r1 : Rd Tryz.prog w 3 v1.cells.toList) (r2 : Rd Tryz.prog w 23 v2.cells.toList) :
    Calls Tryz.prog 3 #[v0, v1, v2] w fun e w' => e = .returned (.bool true) ∧ More w w' := by
  obtain ⟨z, rfl, wz⟩ := Rd.one_int Tryz.underlying3 k0 r0
  obtain ⟨b, rfl, wb⟩ := Rd.one_int Tryz.underlying3 k1 r1
  obtain ⟨n0, n1, n2, n3, n4, n5, rfl, h4, h5⟩ := cfg_rd k2 r2
  refine wnob_any (fun i => [n0, n1, n2, n3, n4, n5, z, b].getD i 0) (fun i h1 h2 => ?_) w
  match i, h1, h2 with
  | 4, _, _ => exact h4
  | 5, _, _ => exact h5
  | 6, _, _ => exact i64_wf wz
  | 7, _, _ => exact i64_wf wb

set_option maxRecDepth 100000 in
theorem liftedWorldNobody (os : Os) (started : os.Started) (H : Type) (enc : TypeId × Value → H) :
    ReturnsInHanded {} Tryz.checked os 3 .any (Rows.worldNobodySpec.pre6 enc Tryz.prog Tryz.f3 Rows.worldNobodyRow.domain false) (Rows.worldNobodySpec.post enc Tryz.prog Tryz.f3 false true false false) := by
  refine returnsInHanded_of_change (C := Tryz.checked) own started (by kernel_rfl) Tryz.func3
    (ChangeSpec.witness6 (enc := enc) (C := Tryz.checked) false ⟨#[], #[.int .i64 0, .int .i64 0, .agg #[.int .i64 0, .int .i64 0, .int .i64 0, .int .i64 0, .int .i64 0, .int .i64 0]], []⟩ 8 (by kernel_rfl) (by kernel_rfl) (by kernel_rfl) (by kernel_rfl)) ?_
  intro W base args ds gs before hval0 hW hcnd _
  have hval : ∀ (j : Nat) t v, Tryz.f3.params[j]? = some t → args[j]? = some v → Value.okWide Tryz.prog W .any base t v := hval0
  have hW' := hW
  obtain ⟨p, q, hA0, hV, rfl, hfz, hnd⟩ := hW
  have hA : DataW.TrodAll enc Tryz.prog W 0 (fun _ => true) true Tryz.f3.params.toList args.toList ds p := hA0
  rw [Tryz.params3] at hA hval
  obtain ⟨v0, vs0, d0, ds0, p0, q0, hargs, rfl, rfl, h0, r0⟩ := trodAll_cons hA
  obtain ⟨v1, vs1, d1, ds1, p1, q1, rfl, rfl, rfl, h1, r1⟩ := trodAll_cons r0
  obtain ⟨v2, vs2, d2, ds2, p2, q2, rfl, rfl, rfl, h2, r2⟩ := trodAll_cons r1
  obtain ⟨rfl, rfl, rfl⟩ := trodAll_nil r2
  obtain rfl : args = #[v0, v1, v2] := by cases args; simp_all
  obtain ⟨rfl, rfl⟩ := trodVars_none hV
  have lt0 : ∀ x ∈ p0, x.block < W.heap.size := by obtain ⟨m, hm⟩ := h0; exact DataW.trod_lt m _ _ _ hm
  have rd0 : Rd Tryz.prog W 3 v0.cells.toList := by obtain ⟨m, hm⟩ := h0; exact ⟨H, enc, m, _, hm⟩
  have lt1 : ∀ x ∈ p1, x.block < W.heap.size := by obtain ⟨m, hm⟩ := h1; exact DataW.trod_lt m _ _ _ hm
  have rd1 : Rd Tryz.prog W 3 v1.cells.toList := by obtain ⟨m, hm⟩ := h1; exact ⟨H, enc, m, _, hm⟩
  have lt2 : ∀ x ∈ p2, x.block < W.heap.size := by obtain ⟨m, hm⟩ := h2; exact DataW.trod_lt m _ _ _ hm
  have rd2 : Rd Tryz.prog W 23 v2.cells.toList := by obtain ⟨m, hm⟩ := h2; exact ⟨H, enc, m, _, hm⟩
  clear hA0 hval0
  refine (wnob_rd v0 v1 v2 (hval 0 3 v0 rfl rfl) (hval 1 3 v1 rfl rfl) (hval 2 23 v2 rfl rfl) rd0 rd1 rd2).mono fun e W' ⟨he, hmore⟩ => ?_
  subst he
  have bel := hmore.below
  exact ⟨_, rfl, _, _, _, [], _, [], hW', trodAll_mk1 (shut_bool Tryz.underlying4 _), (trodAll_cons_mk (Below.trod laidOut (by kernel_rfl) (of_decide_eq_true (by kernel_rfl)) h0 bel lt0) (trodAll_cons_mk (Below.trod laidOut (by kernel_rfl) (of_decide_eq_true (by kernel_rfl)) h1 bel lt1) (trodAll_cons_mk (Below.trod laidOut (by kernel_rfl) (of_decide_eq_true (by kernel_rfl)) h2 bel lt2) trodAll_mk0))), rfl, bel.frame _, fun h => by cases h⟩

theorem overWorldNobody : Rows.worldNobodyRow.holds Tryz.pinned (OpenSpec.ofChange Rows.worldNobodySpec) :=
  OpenClaim.holds_of_wide 3 Tryz.f3 rfl rfl rfl rfl rfl rfl rfl ⟨rfl, rfl, rfl, rfl, rfl⟩ rfl rfl rfl rfl rfl over_named Tryz.func3 over_closed
    over_inst over_wrap
    (fun os started H enc _ => liftedWorldNobody os started H enc)

/-- THE STATEMENT. -/
theorem provedWorldNobody : Rows.WorldNobodySaid := overWorldNobody
#print axioms provedWorldNobody
end Go.Proofs.YtmlianelfokkoaaGreat
