/- law 30: what the calls tell, as facts of few variables. -/
import Derived.Test.YtejokhgabcldhaaDoorOB
import Derived.Test.YtejokhgabcldhaaDoorOC
namespace Go.Proofs.YtejokhgabcldhaaDoor
open Go.ChangeShapes Go.WideShapes Go.ChangeAt Go.RowKit
set_option linter.unusedVariables false
set_option linter.unusedSimpArgs false

/-- What both tell of all batches. -/
structure TextsF (ad : Option Addr) (cap : Nat) (l : List Btm) (T1 : List UInt8) (T2 : Int) : Prop where
  light : ∀ W, BatsAt W ad l → Calls Tryd.prog 12 #[.slice ad l.length cap, .int .i64 12] W fun x w' => LightRet W w' x ((l.length : Int) ≤ 12)
  t1 : ∀ W, BatsAt W ad l → Calls Tryd.prog 17 #[.slice ad l.length cap] W fun x w' => x = .returned (.tuple #[.string (str T1), .int .i64 T2]) ∧ More W w'
  t2 : ∀ W, BatsAt W ad l → Calls Tryd.prog 18 #[.slice ad l.length cap] W fun x w' => x = .returned (.tuple #[.string (str T1), .int .i64 T2]) ∧ More W w'
theorem textsF (ad : Option Addr) (cap : Nat) (l : List Btm) (hf : ∀ x ∈ l, x.b.recs.length ≤ maxLen) (hm : l.length ≤ maxLen) : ∃ T1 T2, textOf (l.map Btm.b) = (T1, T2) ∧ TextsF ad cap l T1 T2 :=
  ⟨(textOf (l.map Btm.b)).1, (textOf (l.map Btm.b)).2, rfl, fun W g => light_bats ad cap l 12 W g hf hm (by decide), fun W g => (dtext_any ad cap l W g hf hm).mono (fun _ _ h => h.out), fun W g => (rdtext_any ad cap l W g hf hm).mono (fun _ _ h => h.out)⟩
/-- A text that is read without an error. -/
structure ReadsF (t : List UInt8) (M : List Bat) : Prop where
  out : ∀ W, Calls Tryd.prog 19 #[.string (str t)] W fun x w' => ∃ (a : Option Addr) (c : Nat) (m : List Btm), x = .returned (.tuple #[.slice a m.length c, .int .i64 0, .int .i64 0]) ∧ m.map Btm.b = M ∧ BatsAt w' a m ∧ (∀ x ∈ m, x.b.recs.length ≤ maxLen) ∧ m.length ≤ 1000 ∧ More W w'
theorem readsF {t : List UInt8} {M : List Bat} (hl : t.length ≤ 1099511627776) (h : dumpRead t = (M, 0, 0)) : ReadsF t M := ⟨fun W => (read_any t W hl).mono (fun x w' hr => by
  obtain ⟨a, c, m, h1, h2, h3, h4, h5, h6⟩ := hr.out
  rw [h] at h1 h2
  exact ⟨a, c, m, h1, h2, h3, h4, h5, h6⟩)⟩
/-- A text in which a line is wrong. -/
structure FailsF (t : List UInt8) (n : Nat) : Prop where
  out : ∀ W, Calls Tryd.prog 19 #[.string (str t)] W fun x w' => ∃ (a : Option Addr) (c : Nat), x = .returned (.tuple #[.slice a 0 c, .int .i64 n, .int .i64 4]) ∧ More W w'
theorem failsF {t : List UInt8} {n : Nat} (hl : t.length ≤ 1099511627776) (h : dumpRead t = ([], n, 4)) : FailsF t n := ⟨fun W => (read_any t W hl).mono (fun x w' hr => by
  obtain ⟨a, c, m, h1, h2, h3, h4, h5, h6⟩ := hr.out
  rw [h] at h1 h2
  have hm : m = [] := by simpa using h2
  subst hm
  exact ⟨a, c, h1, h6⟩)⟩
structure SameF (ad : Option Addr) (cap : Nat) (l : List Btm) : Prop where
  out : ∀ (a : Option Addr) (c : Nat) (m : List Btm) W, BatsAt W ad l → BatsAt W a m → (∀ x ∈ m, x.b.recs.length ≤ maxLen) → m.map Btm.b = l.map Btm.b → Calls Tryd.prog 20 #[.slice ad l.length cap, .slice a m.length c] W fun x w' => x = .returned (.bool true) ∧ More W w'
theorem sameF (ad : Option Addr) (cap : Nat) (l : List Btm) (hf : ∀ x ∈ l, x.b.recs.length ≤ maxLen) (hm : l.length ≤ maxLen) : SameF ad cap l := ⟨fun a c m W g1 g2 hf2 he => sameall_bats ad a cap c l m W g1 g2 hf hf2 hm he.symm⟩
/-- The text of what was read. -/
structure AgainF (M : List Bat) (T1 : List UInt8) (T2 : Int) : Prop where
  out : ∀ (a : Option Addr) (c : Nat) (m : List Btm) W, BatsAt W a m → (∀ x ∈ m, x.b.recs.length ≤ maxLen) → m.length ≤ 1000 → m.map Btm.b = M → Calls Tryd.prog 17 #[.slice a m.length c] W fun x w' => x = .returned (.tuple #[.string (str T1), .int .i64 T2]) ∧ More W w'
theorem againF {M : List Bat} {T1 : List UInt8} {T2 : Int} (h : textOf M = (T1, T2)) : AgainF M T1 T2 := ⟨fun a c m W g hf hm he => (dtext_any a c m W g hf (by unfold maxLen; omega)).mono (fun x w' hr => by
  have h1 := hr.out
  rw [he, h] at h1
  exact h1)⟩
set_option maxRecDepth 100000 in
theorem strv_rd {base : Nat} {w : World} (v0 : Value) (k0 : Value.okWide Tryd.prog w .any base 9 v0) (r0 : Rd Tryd.prog w 9 v0.cells.toList) : ∃ s : List UInt8, v0 = .string (str s) ∧ s.length ≤ maxLen := by
  obtain ⟨s, h1, h2⟩ := r0.string Tryd.underlying9
  refine ⟨s.data.toList, ?_, by simpa using h2⟩
  simp only [Value.okWide, Tryd.underlying9, Cell.okWide] at k0
  rw [str_of]
  cases v0 <;> simp_all [Cell.ok, Value.cells]
end Go.Proofs.YtejokhgabcldhaaDoor
