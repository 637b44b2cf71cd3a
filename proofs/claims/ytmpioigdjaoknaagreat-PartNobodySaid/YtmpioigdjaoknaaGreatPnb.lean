/- The call of PartNobody, run by the engine in the kernel: the number is 0, or a token that is less, or one that is more; the closed case is known beforehand. -/
import Derived.Test.YtmpioigdjaoknaaGreatPna
namespace Go.Proofs.YtmpioigdjaoknaaGreat
set_option linter.unusedVariables false
namespace Ev
noncomputable def fnA : Tab := withSm fnP 19 (.bool true)
theorem fnA_ok : TabOk Tryz.prog fnA := by
  obtain ⟨H, h⟩ := of_isOk awake_run
  exact TabOk.withSm follows fnP_ok 2000 h rfl
/-- A token of an int between two bounds. -/
theorem conc_rng {φ : Phi} {n : Nat} {m lo hi : Int} (h4 : n % 8 = 4) (hl : tokLo (n / 8) = lo) (hh : tokHi (n / 8) = hi) (he : φ.env (n / 8 % 65536) = some (.int .i64 m)) (h1 : lo ≤ m) (h2 : m ≤ hi) : conc φ (.float .f64 n) = some (.int .i64 m) := by
  have ht : tok φ.env n = some (.int .i64 m) := by
    unfold tok
    rw [if_neg (by omega), if_neg (by omega), if_neg (by omega), if_neg (by omega), if_pos h4, he]
    simp only []
    rw [hl, hh, if_pos ⟨h1, h2⟩]
  simp only [conc, ht]; rfl
def tNeg : Nat := 89202980794122492556471466533676412626272260
def tPos : Nat := 178405961588244985127450042902728375349542916
theorem tNeg_lo : tokLo (tNeg / 8) = -9223372036854775808 := by kernel_rfl
theorem tNeg_hi : tokHi (tNeg / 8) = -1 := by kernel_rfl
theorem tPos_lo : tokLo (tPos / 8) = 1 := by kernel_rfl
theorem tPos_hi : tokHi (tPos / 8) = 9223372036854775807 := by kernel_rfl
set_option maxRecDepth 100000
theorem zero_run : isOk (callS Tryz.prog fnA (exec Tryz.prog fnA 2000) [] 3 [.int .i64 0] Heap.empty) (.bool true) = true := by kernel_rfl
theorem neg_run : isOk (callS Tryz.prog fnA (exec Tryz.prog fnA 2000) [] 3 [.float .f64 89202980794122492556471466533676412626272260] Heap.empty) (.bool true) = true := by kernel_rfl
theorem pos_run : isOk (callS Tryz.prog fnA (exec Tryz.prog fnA 2000) [] 3 [.float .f64 178405961588244985127450042902728375349542916] Heap.empty) (.bool true) = true := by kernel_rfl
end Ev
end Go.Proofs.YtmpioigdjaoknaaGreat
