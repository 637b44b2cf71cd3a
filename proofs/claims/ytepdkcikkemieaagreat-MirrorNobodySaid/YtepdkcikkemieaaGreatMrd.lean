/- The statement MirrorNobody, proved: whatever the mirror is, the law's call is run by the engine. -/
import Derived.Test.YtepdkcikkemieaaGreatOpen
import Derived.Test.YtepdkcikkemieaaGreatMr1
import Derived.Test.YtepdkcikkemieaaGreatMr2
import Derived.Test.YtepdkcikkemieaaGreatMr3
import Derived.Test.YtepdkcikkemieaaGreatMr4
import Derived.Test.YtepdkcikkemieaaGreatMro
import Derived.Test.YtepdkcikkemieaaGreatMrp
namespace Go.Proofs.YtepdkcikkemieaaGreat
open Go.ChangeShapes Go.WideShapes Go.ChangeAt Go.RowKit
set_option linter.unusedVariables false
set_option linter.unusedSimpArgs false
set_option maxRecDepth 100000
namespace Ev
/-- A token of an int between two bounds; of a string. -/
theorem conc_rng {φ : Phi} {n : Nat} {m lo hi : Int} (h4 : n % 8 = 4) (hl : tokLo (n / 8) = lo) (hh : tokHi (n / 8) = hi) (he : φ.env (n / 8 % 65536) = some (.int .i64 m)) (h1 : lo ≤ m) (h2 : m ≤ hi) : conc φ (.float .f64 n) = some (.int .i64 m) := by
  have ht : tok φ.env n = some (.int .i64 m) := by
    unfold tok
    rw [if_neg (by omega), if_neg (by omega), if_neg (by omega), if_neg (by omega), if_pos h4, he]
    simp only []
    rw [hl, hh, if_pos ⟨h1, h2⟩]
  simp only [conc, ht]; rfl
theorem conc_str {φ : Phi} {n lo hi b : Nat} {s : ByteArray} (h5 : n % 8 = 5) (hl : strLo (n / 8) = lo) (hh : strHi (n / 8) = hi) (hb : strB (n / 8) = b) (he : φ.env (n / 8 % 65536) = some (.string s)) (h1 : lo ≤ s.size) (h2 : s.size ≤ hi)
    (h3 : 1 ≤ b → b ≤ 256 → ∀ c, s[0]? = some c → c.toNat = b - 1) (h4 : 257 ≤ b → ∀ c, s[0]? = some c → c.toNat ≠ b - 257) : conc φ (.float .f64 n) = some (.string s) := by
  have hok : strOk (n / 8) s := by unfold strOk; rw [hl, hh, hb]; exact ⟨h1, h2, h3, h4⟩
  have ha : strAt φ.env (n / 8) = some s := by
    unfold strAt; rw [he]; simp only []; rw [if_pos hok]
  have ht : tok φ.env n = some (.string s) := by
    unfold tok
    rw [if_neg (by omega), if_neg (by omega), if_neg (by omega), if_neg (by omega), if_neg (by omega), if_pos h5, ha]; rfl
  simp only [conc, ht]; rfl
theorem concL_five {φ : Phi} {a b c d e A B C D E : Value} (h1 : conc φ a = some A) (h2 : conc φ b = some B) (h3 : conc φ c = some C) (h4 : conc φ d = some D) (h5 : conc φ e = some E) : concL φ [.agg ⟨[a, b, c, d, e]⟩] = some [.agg #[A, B, C, D, E]] := by
  simp only [concL, conc, h1, h2, h3, h4, h5]; rfl
end Ev
theorem wf_64 {m : Int} (hw : (Lit.int .i64 m).wf = true) : -9223372036854775808 ≤ m ∧ m ≤ 9223372036854775807 := by
  have e1 : IntKind.i64.min = -9223372036854775808 := by decide
  have e2 : IntKind.i64.max = 9223372036854775807 := by decide
  simp only [Lit.wf, Bool.and_eq_true, decide_eq_true_eq] at hw
  rw [e1, e2] at hw
  exact hw
theorem mir_cells : Tryz.prog.cellsOf 3 = 1 ∧ Tryz.prog.cellsOf 9 = 1 ∧ Tryz.prog.cellsOf 23 = 5 := by refine ⟨?_, ?_, ?_⟩ <;> kernel_rfl
theorem okWide_agg {P : Program} {w : World} {r : Reach} {b : Nat} {t : TypeId} {fs : Array Field} {v : Value} (ht : P.underlying t = some (.struct fs)) (h : Value.okWide P w r b t v) : ∃ cs, v = .agg cs ∧ cs.size = P.cellsOf t := by
  simp only [Value.okWide, ht] at h
  obtain ⟨cs, h1, h2, _⟩ := h
  exact ⟨cs, h1, h2⟩
theorem five_of {l : List Value} (h : l.length = 5) : ∃ a b c d e, l = [a, b, c, d, e] := by
  match l, h with
  | [a, b, c, d, e], _ => exact ⟨a, b, c, d, e, rfl⟩
theorem mir_rd {w : World} {r : Reach} {b : Nat} {v : Value} (hk : Value.okWide Tryz.prog w r b 23 v) (h : Rd Tryz.prog w 23 v.cells.toList) :
    ∃ (s : ByteArray) (m : Nat → Int), v = .agg #[.string s, .int .i64 (m 1), .int .i64 (m 2), .int .i64 (m 3), .int .i64 (m 4)] ∧ s.size ≤ maxLen ∧ ∀ i, -9223372036854775808 ≤ m i ∧ m i ≤ 9223372036854775807 := by
  obtain ⟨ci, cst, cm⟩ := mir_cells
  obtain ⟨cs, rfl, hsz⟩ := okWide_agg Tryz.underlying23 hk
  obtain ⟨_, hf⟩ := h.struct Tryz.underlying23
  rw [cm] at hsz
  obtain ⟨d0, d1, d2, d3, d4, hcs⟩ := five_of (l := cs.toList) (by rw [Array.length_toList]; exact hsz)
  have ecs : cs = #[d0, d1, d2, d3, d4] := by apply Array.toList_inj.1; rw [hcs]
  subst ecs
  obtain ⟨s, e0, hs⟩ := (hf 0 _ rfl).string Tryz.underlying9
  obtain ⟨n1, e1, w1⟩ := (hf 1 _ rfl).int Tryz.underlying3
  obtain ⟨n2, e2, w2⟩ := (hf 2 _ rfl).int Tryz.underlying3
  obtain ⟨n3, e3, w3⟩ := (hf 3 _ rfl).int Tryz.underlying3
  obtain ⟨n4, e4, w4⟩ := (hf 4 _ rfl).int Tryz.underlying3
  simp [Value.cells, ci, cst] at e0 e1 e2 e3 e4
  refine ⟨s, fun i => [0, n1, n2, n3, n4].getD i 0, by rw [e0, e1, e2, e3, e4]; rfl, hs, fun i => ?_⟩
  match i with
  | 0 => exact ⟨show (-9223372036854775808 : Int) ≤ 0 by decide, show (0 : Int) ≤ 9223372036854775807 by decide⟩
  | 1 => exact wf_64 w1
  | 2 => exact wf_64 w2
  | 3 => exact wf_64 w3
  | 4 => exact wf_64 w4
  | i + 5 => exact ⟨by simp, by simp⟩
theorem mir_any {base : Nat} {w : World} (v0 : Value) (k0 : Value.okWide Tryz.prog w .any base 23 v0) (r0 : Rd Tryz.prog w 23 v0.cells.toList) :
    Calls Tryz.prog 3 #[v0] w fun e w' => e = .returned (.bool true) ∧ More w w' := by
  obtain ⟨s, m, rfl, hs, hm⟩ := mir_rd k0 r0
  have hs : s.size ≤ 9223372036854775807 := hs
  have b1 := hm 1
  have b2 := hm 2
  have b3 := hm 3
  have b4 := hm 4
  let env : Nat → Option Value := fun n => if n = 0 then some (.string s) else some (.int .i64 (m n))
  have I : ∀ (n i : Nat) (lo hi : Int), n % 8 = 4 → Ev.tokLo (n / 8) = lo → Ev.tokHi (n / 8) = hi → n / 8 % 65536 = i → i ≠ 0 → lo ≤ m i → m i ≤ hi → Ev.conc ⟨fun _ => none, env⟩ (.float .f64 n) = some (.int .i64 (m i)) := by
    intro n i lo hi h4 hl hh hi0 hne h1 h2
    exact Ev.conc_rng h4 hl hh (by rw [hi0]; show (if i = 0 then _ else _) = _; rw [if_neg hne]) h1 h2
  by_cases hlong : 301 ≤ s.size
  · obtain ⟨H, hr⟩ := Ev.of_isOk Ev.long_run
    exact Ev.call_more Ev.follows Ev.fnA_ok 3000 hr rfl env (Ev.concL_five (Ev.conc_str (n := 20769187434139310511870185661005829) (lo := 301) (hi := 9223372036854775807) (b := 0) (by kernel_rfl) (by kernel_rfl) (by kernel_rfl) (by kernel_rfl) rfl (by omega) (by omega) (by first | exact hfst | (intro h; exact absurd h (by decide)) | (intro _ h; exact absurd h (by decide))) (by first | exact hfst | (intro h; exact absurd h (by decide)))) (I 178405961588244985122614339624269858650193932 1 (-9223372036854775808) (9223372036854775807) (by kernel_rfl) (by kernel_rfl) (by kernel_rfl) (by kernel_rfl) (by decide) (by omega) (by omega)) (I 178405961588244985122614339624269858650193940 2 (-9223372036854775808) (9223372036854775807) (by kernel_rfl) (by kernel_rfl) (by kernel_rfl) (by kernel_rfl) (by decide) (by omega) (by omega)) (I 178405961588244985122614339624269858650193948 3 (-9223372036854775808) (9223372036854775807) (by kernel_rfl) (by kernel_rfl) (by kernel_rfl) (by kernel_rfl) (by decide) (by omega) (by omega)) (I 178405961588244985122614339624269858650193956 4 (-9223372036854775808) (9223372036854775807) (by kernel_rfl) (by kernel_rfl) (by kernel_rfl) (by kernel_rfl) (by decide) (by omega) (by omega))) w
  by_cases hz : s.size = 0
  · have e0 : s = ⟨#[]⟩ := by
      obtain ⟨d⟩ := s
      have : d = #[] := Array.eq_empty_of_size_eq_zero hz
      rw [this]
    have he0 : Ev.conc ⟨fun _ => none, env⟩ (.string ⟨#[]⟩) = some (.string s) := by rw [e0]; rfl
    obtain ⟨H, hr⟩ := Ev.of_isOk Ev.empty_run
    exact Ev.call_more Ev.follows Ev.fnA_ok 3000 hr rfl env (Ev.concL_five he0 (I 178405961588244985122614339624269858650193932 1 (-9223372036854775808) (9223372036854775807) (by kernel_rfl) (by kernel_rfl) (by kernel_rfl) (by kernel_rfl) (by decide) (by omega) (by omega)) (I 178405961588244985122614339624269858650193940 2 (-9223372036854775808) (9223372036854775807) (by kernel_rfl) (by kernel_rfl) (by kernel_rfl) (by kernel_rfl) (by decide) (by omega) (by omega)) (I 178405961588244985122614339624269858650193948 3 (-9223372036854775808) (9223372036854775807) (by kernel_rfl) (by kernel_rfl) (by kernel_rfl) (by kernel_rfl) (by decide) (by omega) (by omega)) (I 178405961588244985122614339624269858650193956 4 (-9223372036854775808) (9223372036854775807) (by kernel_rfl) (by kernel_rfl) (by kernel_rfl) (by kernel_rfl) (by decide) (by omega) (by omega))) w
  obtain ⟨c, hc⟩ : ∃ c, s[0]? = some c := ⟨s[0]'(by omega), by simp [show 0 < s.size by omega]⟩
  by_cases hu : c.toNat = 95
  · have hfst : 1 ≤ 96 → 96 ≤ 256 → ∀ d, s[0]? = some d → d.toNat = 96 - 1 := fun _ _ d hd => by rw [hc] at hd; cases hd; exact hu
    obtain ⟨H, hr⟩ := Ev.of_isOk Ev.under_run
    exact Ev.call_more Ev.follows Ev.fnA_ok 3000 hr rfl env (Ev.concL_five (Ev.conc_str (n := 3987683987354747619386961124947132421) (lo := 1) (hi := 300) (b := 96) (by kernel_rfl) (by kernel_rfl) (by kernel_rfl) (by kernel_rfl) rfl (by omega) (by omega) (by first | exact hfst | (intro h; exact absurd h (by decide)) | (intro _ h; exact absurd h (by decide))) (by first | exact hfst | (intro h; exact absurd h (by decide)))) (I 178405961588244985122614339624269858650193932 1 (-9223372036854775808) (9223372036854775807) (by kernel_rfl) (by kernel_rfl) (by kernel_rfl) (by kernel_rfl) (by decide) (by omega) (by omega)) (I 178405961588244985122614339624269858650193940 2 (-9223372036854775808) (9223372036854775807) (by kernel_rfl) (by kernel_rfl) (by kernel_rfl) (by kernel_rfl) (by decide) (by omega) (by omega)) (I 178405961588244985122614339624269858650193948 3 (-9223372036854775808) (9223372036854775807) (by kernel_rfl) (by kernel_rfl) (by kernel_rfl) (by kernel_rfl) (by decide) (by omega) (by omega)) (I 178405961588244985122614339624269858650193956 4 (-9223372036854775808) (9223372036854775807) (by kernel_rfl) (by kernel_rfl) (by kernel_rfl) (by kernel_rfl) (by decide) (by omega) (by omega))) w
  have hfst : 257 ≤ 352 → ∀ d, s[0]? = some d → d.toNat ≠ 352 - 257 := fun _ d hd => by rw [hc] at hd; cases hd; exact hu
  by_cases l0 : m 1 < 0
  · obtain ⟨H, hr⟩ := Ev.of_isOk Ev.lessIndex_run
    exact Ev.call_more Ev.follows Ev.fnA_ok 3000 hr rfl env (Ev.concL_five (Ev.conc_str (n := 14621507953634074602617417607189889029) (lo := 1) (hi := 300) (b := 352) (by kernel_rfl) (by kernel_rfl) (by kernel_rfl) (by kernel_rfl) rfl (by omega) (by omega) (by first | exact hfst | (intro h; exact absurd h (by decide)) | (intro _ h; exact absurd h (by decide))) (by first | exact hfst | (intro h; exact absurd h (by decide)))) (I 89202980794122492556471466533676412626272268 1 (-9223372036854775808) (-1) (by kernel_rfl) (by kernel_rfl) (by kernel_rfl) (by kernel_rfl) (by decide) (by omega) (by omega)) (I 178405961588244985122614339624269858650193940 2 (-9223372036854775808) (9223372036854775807) (by kernel_rfl) (by kernel_rfl) (by kernel_rfl) (by kernel_rfl) (by decide) (by omega) (by omega)) (I 178405961588244985122614339624269858650193948 3 (-9223372036854775808) (9223372036854775807) (by kernel_rfl) (by kernel_rfl) (by kernel_rfl) (by kernel_rfl) (by decide) (by omega) (by omega)) (I 178405961588244985122614339624269858650193956 4 (-9223372036854775808) (9223372036854775807) (by kernel_rfl) (by kernel_rfl) (by kernel_rfl) (by kernel_rfl) (by decide) (by omega) (by omega))) w
  by_cases g0 : 7 < m 1
  · obtain ⟨H, hr⟩ := Ev.of_isOk Ev.moreIndex_run
    exact Ev.call_more Ev.follows Ev.fnA_ok 3000 hr rfl env (Ev.concL_five (Ev.conc_str (n := 14621507953634074602617417607189889029) (lo := 1) (hi := 300) (b := 352) (by kernel_rfl) (by kernel_rfl) (by kernel_rfl) (by kernel_rfl) rfl (by omega) (by omega) (by first | exact hfst | (intro h; exact absurd h (by decide)) | (intro _ h; exact absurd h (by decide))) (by first | exact hfst | (intro h; exact absurd h (by decide)))) (I 178405961588244985127450042902728375353212940 1 (8) (9223372036854775807) (by kernel_rfl) (by kernel_rfl) (by kernel_rfl) (by kernel_rfl) (by decide) (by omega) (by omega)) (I 178405961588244985122614339624269858650193940 2 (-9223372036854775808) (9223372036854775807) (by kernel_rfl) (by kernel_rfl) (by kernel_rfl) (by kernel_rfl) (by decide) (by omega) (by omega)) (I 178405961588244985122614339624269858650193948 3 (-9223372036854775808) (9223372036854775807) (by kernel_rfl) (by kernel_rfl) (by kernel_rfl) (by kernel_rfl) (by decide) (by omega) (by omega)) (I 178405961588244985122614339624269858650193956 4 (-9223372036854775808) (9223372036854775807) (by kernel_rfl) (by kernel_rfl) (by kernel_rfl) (by kernel_rfl) (by decide) (by omega) (by omega))) w
  by_cases l1 : m 2 < 1
  · obtain ⟨H, hr⟩ := Ev.of_isOk Ev.lessProducer_run
    exact Ev.call_more Ev.follows Ev.fnA_ok 3000 hr rfl env (Ev.concL_five (Ev.conc_str (n := 14621507953634074602617417607189889029) (lo := 1) (hi := 300) (b := 352) (by kernel_rfl) (by kernel_rfl) (by kernel_rfl) (by kernel_rfl) rfl (by omega) (by omega) (by first | exact hfst | (intro h; exact absurd h (by decide)) | (intro _ h; exact absurd h (by decide))) (by first | exact hfst | (intro h; exact absurd h (by decide)))) (I 89202980794122492638678422267471196506292236 1 (0) (7) (by kernel_rfl) (by kernel_rfl) (by kernel_rfl) (by kernel_rfl) (by decide) (by omega) (by omega)) (I 89202980794122492566142873090593446023921684 2 (-9223372036854775808) (0) (by kernel_rfl) (by kernel_rfl) (by kernel_rfl) (by kernel_rfl) (by decide) (by omega) (by omega)) (I 178405961588244985122614339624269858650193948 3 (-9223372036854775808) (9223372036854775807) (by kernel_rfl) (by kernel_rfl) (by kernel_rfl) (by kernel_rfl) (by decide) (by omega) (by omega)) (I 178405961588244985122614339624269858650193956 4 (-9223372036854775808) (9223372036854775807) (by kernel_rfl) (by kernel_rfl) (by kernel_rfl) (by kernel_rfl) (by decide) (by omega) (by omega))) w
  by_cases g1 : 1099511627776 < m 2
  · obtain ⟨H, hr⟩ := Ev.of_isOk Ev.moreProducer_run
    exact Ev.call_more Ev.follows Ev.fnA_ok 3000 hr rfl env (Ev.concL_five (Ev.conc_str (n := 14621507953634074602617417607189889029) (lo := 1) (hi := 300) (b := 352) (by kernel_rfl) (by kernel_rfl) (by kernel_rfl) (by kernel_rfl) rfl (by omega) (by omega) (by first | exact hfst | (intro h; exact absurd h (by decide)) | (intro _ h; exact absurd h (by decide))) (by first | exact hfst | (intro h; exact absurd h (by decide)))) (I 89202980794122492638678422267471196506292236 1 (0) (7) (by kernel_rfl) (by kernel_rfl) (by kernel_rfl) (by kernel_rfl) (by decide) (by omega) (by omega)) (I 178405961588244985127450043479189127652966420 2 (1099511627777) (9223372036854775807) (by kernel_rfl) (by kernel_rfl) (by kernel_rfl) (by kernel_rfl) (by decide) (by omega) (by omega)) (I 178405961588244985122614339624269858650193948 3 (-9223372036854775808) (9223372036854775807) (by kernel_rfl) (by kernel_rfl) (by kernel_rfl) (by kernel_rfl) (by decide) (by omega) (by omega)) (I 178405961588244985122614339624269858650193956 4 (-9223372036854775808) (9223372036854775807) (by kernel_rfl) (by kernel_rfl) (by kernel_rfl) (by kernel_rfl) (by decide) (by omega) (by omega))) w
  by_cases l2 : m 3 < 0
  · obtain ⟨H, hr⟩ := Ev.of_isOk Ev.lessAt_run
    exact Ev.call_more Ev.follows Ev.fnA_ok 3000 hr rfl env (Ev.concL_five (Ev.conc_str (n := 14621507953634074602617417607189889029) (lo := 1) (hi := 300) (b := 352) (by kernel_rfl) (by kernel_rfl) (by kernel_rfl) (by kernel_rfl) rfl (by omega) (by omega) (by first | exact hfst | (intro h; exact absurd h (by decide)) | (intro _ h; exact absurd h (by decide))) (by first | exact hfst | (intro h; exact absurd h (by decide)))) (I 89202980794122492638678422267471196506292236 1 (0) (7) (by kernel_rfl) (by kernel_rfl) (by kernel_rfl) (by kernel_rfl) (by decide) (by omega) (by omega)) (I 89202991427946458850305559599508444966027284 2 (1) (1099511627776) (by kernel_rfl) (by kernel_rfl) (by kernel_rfl) (by kernel_rfl) (by decide) (by omega) (by omega)) (I 89202980794122492556471466533676412626272284 3 (-9223372036854775808) (-1) (by kernel_rfl) (by kernel_rfl) (by kernel_rfl) (by kernel_rfl) (by decide) (by omega) (by omega)) (I 178405961588244985122614339624269858650193956 4 (-9223372036854775808) (9223372036854775807) (by kernel_rfl) (by kernel_rfl) (by kernel_rfl) (by kernel_rfl) (by decide) (by omega) (by omega))) w
  by_cases g2 : 4611686018427387903 < m 3
  · obtain ⟨H, hr⟩ := Ev.of_isOk Ev.moreAt_run
    exact Ev.call_more Ev.follows Ev.fnA_ok 3000 hr rfl env (Ev.concL_five (Ev.conc_str (n := 14621507953634074602617417607189889029) (lo := 1) (hi := 300) (b := 352) (by kernel_rfl) (by kernel_rfl) (by kernel_rfl) (by kernel_rfl) rfl (by omega) (by omega) (by first | exact hfst | (intro h; exact absurd h (by decide)) | (intro _ h; exact absurd h (by decide))) (by first | exact hfst | (intro h; exact absurd h (by decide)))) (I 89202980794122492638678422267471196506292236 1 (0) (7) (by kernel_rfl) (by kernel_rfl) (by kernel_rfl) (by kernel_rfl) (by decide) (by omega) (by omega)) (I 89202991427946458850305559599508444966027284 2 (1) (1099511627776) (by kernel_rfl) (by kernel_rfl) (by kernel_rfl) (by kernel_rfl) (by decide) (by omega) (by omega)) (I 178405961588244985129867894541957633698431004 3 (4611686018427387904) (9223372036854775807) (by kernel_rfl) (by kernel_rfl) (by kernel_rfl) (by kernel_rfl) (by decide) (by omega) (by omega)) (I 178405961588244985122614339624269858650193956 4 (-9223372036854775808) (9223372036854775807) (by kernel_rfl) (by kernel_rfl) (by kernel_rfl) (by kernel_rfl) (by decide) (by omega) (by omega))) w
  by_cases l3 : m 4 < 0
  · obtain ⟨H, hr⟩ := Ev.of_isOk Ev.lessSeq_run
    exact Ev.call_more Ev.follows Ev.fnA_ok 3000 hr rfl env (Ev.concL_five (Ev.conc_str (n := 14621507953634074602617417607189889029) (lo := 1) (hi := 300) (b := 352) (by kernel_rfl) (by kernel_rfl) (by kernel_rfl) (by kernel_rfl) rfl (by omega) (by omega) (by first | exact hfst | (intro h; exact absurd h (by decide)) | (intro _ h; exact absurd h (by decide))) (by first | exact hfst | (intro h; exact absurd h (by decide)))) (I 89202980794122492638678422267471196506292236 1 (0) (7) (by kernel_rfl) (by kernel_rfl) (by kernel_rfl) (by kernel_rfl) (by decide) (by omega) (by omega)) (I 89202991427946458850305559599508444966027284 2 (1) (1099511627776) (by kernel_rfl) (by kernel_rfl) (by kernel_rfl) (by kernel_rfl) (by decide) (by omega) (by omega)) (I 133804471191183738844378606357431652337057820 3 (0) (4611686018427387903) (by kernel_rfl) (by kernel_rfl) (by kernel_rfl) (by kernel_rfl) (by decide) (by omega) (by omega)) (I 89202980794122492556471466533676412626272292 4 (-9223372036854775808) (-1) (by kernel_rfl) (by kernel_rfl) (by kernel_rfl) (by kernel_rfl) (by decide) (by omega) (by omega))) w
  by_cases g3 : 2147483647 < m 4
  · obtain ⟨H, hr⟩ := Ev.of_isOk Ev.moreSeq_run
    exact Ev.call_more Ev.follows Ev.fnA_ok 3000 hr rfl env (Ev.concL_five (Ev.conc_str (n := 14621507953634074602617417607189889029) (lo := 1) (hi := 300) (b := 352) (by kernel_rfl) (by kernel_rfl) (by kernel_rfl) (by kernel_rfl) rfl (by omega) (by omega) (by first | exact hfst | (intro h; exact absurd h (by decide)) | (intro _ h; exact absurd h (by decide))) (by first | exact hfst | (intro h; exact absurd h (by decide)))) (I 89202980794122492638678422267471196506292236 1 (0) (7) (by kernel_rfl) (by kernel_rfl) (by kernel_rfl) (by kernel_rfl) (by decide) (by omega) (by omega)) (I 89202991427946458850305559599508444966027284 2 (1) (1099511627776) (by kernel_rfl) (by kernel_rfl) (by kernel_rfl) (by kernel_rfl) (by decide) (by omega) (by omega)) (I 133804471191183738844378606357431652337057820 3 (0) (4611686018427387903) (by kernel_rfl) (by kernel_rfl) (by kernel_rfl) (by kernel_rfl) (by decide) (by omega) (by omega)) (I 178405961588244985127450042903854275255861284 4 (2147483648) (9223372036854775807) (by kernel_rfl) (by kernel_rfl) (by kernel_rfl) (by kernel_rfl) (by decide) (by omega) (by omega))) w
  obtain ⟨H, hr⟩ := Ev.of_isOk Ev.all_run
  exact Ev.call_more Ev.follows Ev.fnA_ok 3000 hr rfl env (Ev.concL_five (Ev.conc_str (n := 14621507953634074602617417607189889029) (lo := 1) (hi := 300) (b := 352) (by kernel_rfl) (by kernel_rfl) (by kernel_rfl) (by kernel_rfl) rfl (by omega) (by omega) (by first | exact hfst | (intro h; exact absurd h (by decide)) | (intro _ h; exact absurd h (by decide))) (by first | exact hfst | (intro h; exact absurd h (by decide)))) (I 89202980794122492638678422267471196506292236 1 (0) (7) (by kernel_rfl) (by kernel_rfl) (by kernel_rfl) (by kernel_rfl) (by decide) (by omega) (by omega)) (I 89202991427946458850305559599508444966027284 2 (1) (1099511627776) (by kernel_rfl) (by kernel_rfl) (by kernel_rfl) (by kernel_rfl) (by decide) (by omega) (by omega)) (I 133804471191183738844378606357431652337057820 3 (0) (4611686018427387903) (by kernel_rfl) (by kernel_rfl) (by kernel_rfl) (by kernel_rfl) (by decide) (by omega) (by omega)) (I 89202980814891679995446480326256914641977380 4 (0) (2147483647) (by kernel_rfl) (by kernel_rfl) (by kernel_rfl) (by kernel_rfl) (by decide) (by omega) (by omega))) w

set_option maxRecDepth 100000 in
theorem liftedMirrorNobody (os : Os) (started : os.Started) (H : Type) (enc : TypeId × Value → H) :
    ReturnsInHanded {} Tryz.checked os 3 .any (Rows.mirrorNobodySpec.pre6 enc Tryz.prog Tryz.f3 Rows.mirrorNobodyRow.domain false) (Rows.mirrorNobodySpec.post enc Tryz.prog Tryz.f3 false true false false) := by
  refine returnsInHanded_of_change (C := Tryz.checked) own started (by kernel_rfl) Tryz.func3
    (ChangeSpec.witness6 (enc := enc) (C := Tryz.checked) false ⟨#[], #[.agg #[.string ⟨#[]⟩, .int .i64 0, .int .i64 0, .int .i64 0, .int .i64 0]], []⟩ 8 (by kernel_rfl) (by kernel_rfl) (by kernel_rfl) (by kernel_rfl)) ?_
  intro W base args ds gs before hval0 hW hcnd _
  have hval : ∀ (j : Nat) t v, Tryz.f3.params[j]? = some t → args[j]? = some v → Value.okWide Tryz.prog W .any base t v := hval0
  have hW' := hW
  obtain ⟨p, q, hA0, hV, rfl, hfz, hnd⟩ := hW
  have hA : DataW.TrodAll enc Tryz.prog W 0 (fun _ => true) true Tryz.f3.params.toList args.toList ds p := hA0
  rw [Tryz.params3] at hA hval
  obtain ⟨v0, vs0, d0, ds0, p0, q0, hargs, rfl, rfl, h0, r0⟩ := trodAll_cons hA
  obtain ⟨rfl, rfl, rfl⟩ := trodAll_nil r0
  obtain rfl : args = #[v0] := by cases args; simp_all
  obtain ⟨rfl, rfl⟩ := trodVars_none hV
  have lt0 : ∀ x ∈ p0, x.block < W.heap.size := by obtain ⟨m, hm⟩ := h0; exact DataW.trod_lt m _ _ _ hm
  have rd0 : Rd Tryz.prog W 23 v0.cells.toList := by obtain ⟨m, hm⟩ := h0; exact ⟨H, enc, m, _, hm⟩
  clear hA0 hval0
  refine (mir_any v0 (hval 0 23 v0 rfl rfl) rd0).mono fun e W' ⟨he, hmore⟩ => ?_
  subst he
  have bel := hmore.below
  exact ⟨_, rfl, _, _, _, [], _, [], hW', trodAll_mk1 (shut_bool Tryz.underlying4 _), (trodAll_cons_mk (Below.trod laidOut (by kernel_rfl) (of_decide_eq_true (by kernel_rfl)) h0 bel lt0) trodAll_mk0), rfl, bel.frame _, fun h => by cases h⟩

theorem overMirrorNobody : Rows.mirrorNobodyRow.holds Tryz.pinned (OpenSpec.ofChange Rows.mirrorNobodySpec) :=
  OpenClaim.holds_of_wide 3 Tryz.f3 rfl rfl rfl rfl rfl rfl rfl ⟨rfl, rfl, rfl, rfl, rfl⟩ rfl rfl rfl rfl rfl over_named Tryz.func3 over_closed
    over_inst over_wrap
    (fun os started H enc _ => liftedMirrorNobody os started H enc)

/-- THE STATEMENT. -/
theorem provedMirrorNobody : Rows.MirrorNobodySaid := overMirrorNobody
#print axioms provedMirrorNobody
end Go.Proofs.YtepdkcikkemieaaGreat
