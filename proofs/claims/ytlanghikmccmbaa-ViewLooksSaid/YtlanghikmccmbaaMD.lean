/- record: Get. -/
import Derived.Test.YtlanghikmccmbaaMC
namespace Go.Proofs.Ytlanghikmccmbaa
open Go.ChangeShapes Go.WideShapes Go.ChangeAt Go.RowKit
set_option linter.unusedVariables false
set_option linter.unusedSimpArgs false

theorem fixV_nat (l : List UInt8) (e : Int) : ∃ n : Nat, n < 256 ∧ fixV l e = n := by
  unfold fixV
  split
  · cases l with
    | nil => exact ⟨0, by decide, rfl⟩
    | cons b r => exact ⟨b.toNat, b.toNat_lt, rfl⟩
  · exact ⟨0, by decide, rfl⟩
theorem and2 : ∀ y : Nat, y < 256 → y &&& 2 = if y / 2 % 2 = 1 then 2 else 0 := by decide +kernel
theorem and1 : ∀ y : Nat, y < 256 → y &&& 1 = if y % 2 = 1 then 1 else 0 := by decide +kernel
theorem u64_and2 (y : Nat) (hy : y < 256) : bits .and .u64 (y : Int) 2 = if y / 2 % 2 = 1 then 2 else 0 := by
  have h := Go.u64_and_nat y 2 (by omega) (by decide)
  rw [and2 y hy] at h
  rw [show (2 : Int) = ((2 : Nat) : Int) from rfl, h]; split <;> rfl
theorem u64_and1' (y : Nat) (hy : y < 256) : bits .and .u64 (y : Int) 1 = if y % 2 = 1 then 1 else 0 := by
  have h := Go.u64_and_nat y 1 (by omega) (by decide)
  rw [and1 y hy] at h
  rw [show (1 : Int) = ((1 : Nat) : Int) from rfl, h]; split <;> rfl
/-- recGet, its parts by name. -/
def recEnd (f : Int) (q : List UInt8 × Int) (r : Rec) : List UInt8 × Int × Rec × Int :=
  if q.2 ≠ 0 then (q.1, q.2, Rec.zero, q.2) else if 3 < f ∨ recCheck r ≠ 0 then (q.1, q.2, Rec.zero, 4) else (q.1, q.2, r, 0)
theorem recGet_eq (l : List UInt8) (e : Int) (n : Nat) (hn : fixV l e = n) (K V : List UInt8 × Int × List UInt8)
    (hK : K = if n % 2 = 1 then txt (numL (numL (fixL l e) (fixE l e)) (numE (fixL l e) (fixE l e))) (numE (numL (fixL l e) (fixE l e)) (numE (fixL l e) (fixE l e))) 64 else (numL (numL (fixL l e) (fixE l e)) (numE (fixL l e) (fixE l e)), numE (numL (fixL l e) (fixE l e)) (numE (fixL l e) (fixE l e)), []))
    (hV : V = if n / 2 % 2 = 1 then (K.1, K.2.1, []) else txt K.1 K.2.1 512) :
    recGet l e = recEnd n (V.1, V.2.1) ⟨numV (fixL l e) (fixE l e), numV (numL (fixL l e) (fixE l e)) (numE (fixL l e) (fixE l e)), decide (n % 2 = 1), K.2.2, decide (n / 2 % 2 = 1), V.2.2⟩ := by
  have e1 : ((n : Int) % 2 = 1) = (n % 2 = 1) := by simp only [eq_iff_iff]; omega
  have e2 : ((n : Int) / 2 % 2 = 1) = (n / 2 % 2 = 1) := by simp only [eq_iff_iff]; omega
  have e3 : ((n : Int) / 2 % 2 = 0) = (¬ n / 2 % 2 = 1) := by simp only [eq_iff_iff]; omega
  unfold recGet recEnd
  dsimp only
  rw [hn]
  simp only [e1, e2, e3]
  rw [← hK]
  have hV' : V = if ¬ n / 2 % 2 = 1 then txt K.1 K.2.1 512 else (K.1, K.2.1, []) := by
    rw [hV]; by_cases h : n / 2 % 2 = 1 <;> simp [h]
  rw [← hV']
/-- A record off a reader. -/
structure RecGot (w w' : World) (x : Ending) (p : Nat) (v : Value) (l : List UInt8) (g : List UInt8 × Int × Rec × Int) : Prop where
  res : x = .returned (.tuple #[recV g.2.2.1, .int .i64 g.2.2.2])
  took : Took w w' p v l g.1 g.2.1
theorem recgot {w : World} {x : Ending} {p : Nat} {v v' : Value} {l l' : List UInt8} {e' e : Int} {g : List UInt8 × Int × Rec × Int} {r : Rec} (L : List (Array Obj)) (n : Nat) (hg : g = (l', e', r, e)) (hx : x = .returned (.tuple #[recV r, .int .i64 e]))
    (hk : ∀ W0, RB W0 v l → RB W0 v' l') : RecGot w (wd (rset w p v' e') L n) x p v l g := by
  subst hg hx
  exact ⟨rfl, took_of hk rfl rfl⟩
theorem recend_err {g : List UInt8 × Int × Rec × Int} {f e : Int} {l : List UInt8} {r : Rec} (h : g = recEnd f (l, e) r) (he : e ≠ 0) : g = (l, e, Rec.zero, e) := by rw [h]; unfold recEnd; rw [if_pos he]
theorem recend_form {g : List UInt8 × Int × Rec × Int} {f e : Int} {l : List UInt8} {r : Rec} (h : g = recEnd f (l, e) r) (he : e = 0) (hf : 3 < f ∨ recCheck r ≠ 0) : g = (l, 0, Rec.zero, 4) := by subst he; rw [h]; unfold recEnd; rw [if_neg (by simp), if_pos hf]
theorem recend_ok {g : List UInt8 × Int × Rec × Int} {f e : Int} {l : List UInt8} {r : Rec} (h : g = recEnd f (l, e) r) (he : e = 0) (hf : f ≤ 3) (hc : recCheck r = 0) : g = (l, 0, r, 0) := by subst he; rw [h]; unfold recEnd; rw [if_neg (by simp), if_neg (by rw [hc]; simp; omega)]
end Go.Proofs.Ytlanghikmccmbaa
