/- Opening what came in: 'Rd P w t cs': the cells cs read as a datum of type t. And the frame that lifts a law's walk to its row. -/
import Derived.Test.YtepdkcikkemieaaGreatLib
import Derived.ProofKit
import Derived.OpenShut
import Derived.ShutString
import Derived.ChangeOld
import Derived.Below
import Derived.Carry
namespace Go.Proofs.YtepdkcikkemieaaGreat
open Go.RowKit
set_option linter.unusedVariables false
set_option linter.unusedSimpArgs false

theorem own : ownKnob Tryz.prog.godebug = none := by kernel_rfl
theorem laidOut : laidOutB Tryz.prog = true := by kernel_rfl

def Rd (P : Program) (w : World) (t : TypeId) (cs : List Value) : Prop := ∃ (H : Type) (enc : TypeId × Value → H) (fuel : Nat) (x : DataW H × List MemPlace), DataW.trod enc P w 0 (fun _ => true) true fuel t cs = some x

section
variable {P : Program} {w : World} {t e : TypeId} {cs : List Value}
theorem Rd.bool (ht : P.underlying t = some .bool) (h : Rd P w t cs) : ∃ b, cs = [.bool b] := by
  obtain ⟨H, enc, fuel, x, h⟩ := h
  obtain ⟨b, h1, _⟩ := DataW.trod_bool ht h
  exact ⟨b, h1⟩
theorem Rd.int {k : IntKind} (ht : P.underlying t = some (.int k)) (h : Rd P w t cs) : ∃ n, cs = [.int k n] ∧ (Lit.int k n).wf = true := by
  obtain ⟨H, enc, fuel, x, h⟩ := h
  obtain ⟨n, h1, _, h2⟩ := DataW.trod_int ht h
  exact ⟨n, h1, h2⟩
theorem Rd.string (ht : P.underlying t = some .string) (h : Rd P w t cs) : ∃ s : ByteArray, cs = [.string s] ∧ s.size ≤ maxLen := by
  obtain ⟨H, enc, fuel, x, h⟩ := h
  obtain ⟨s, h1, _, h2⟩ := DataW.trod_string ht h
  exact ⟨s, h1, h2⟩
theorem Rd.struct {fs : Array Field} (ht : P.underlying t = some (.struct fs)) (h : Rd P w t cs) :
    cs.length = P.cellsOf t ∧ ∀ (i : Nat) (f : Field), fs[i]? = some f → Rd P w f.type ((cs.drop f.offset).take (P.cellsOf f.type)) := by
  obtain ⟨H, enc, fuel, x, h⟩ := h
  obtain ⟨xs, n, _, _, h1, h2, h3⟩ := DataW.trod_struct ht h
  refine ⟨h1, fun i f hf => ?_⟩
  have hi : i < xs.length := by rw [h2]; exact (Array.getElem?_eq_some_iff.1 hf).1
  exact ⟨H, enc, n, xs[i], by rw [h3 i f hf]; exact List.getElem?_eq_getElem hi⟩
theorem Rd.array {n : Nat} (ht : P.underlying t = some (.array n e)) (h : Rd P w t cs) :
    cs.length = P.cellsOf t ∧ ∀ i, i < n → Rd P w e ((cs.drop (i * P.cellsOf e)).take (P.cellsOf e)) := by
  obtain ⟨H, enc, fuel, x, h⟩ := h
  obtain ⟨xs, m, _, _, h1, h2, h3⟩ := DataW.trod_array ht h
  refine ⟨h1, fun i hi => ?_⟩
  exact ⟨H, enc, m, xs[i], by rw [h3 i hi]; exact List.getElem?_eq_getElem (by omega)⟩
/-- A slice that came in: nil, or empty, or a row of elements in an old block. -/
theorem Rd.slice (ht : P.underlying t = some (.slice e)) (hz : P.cellsOf e ≠ 0) (h : Rd P w t cs) :
    (∃ a cap, cs = [.slice a 0 cap] ∧ cap ≤ maxLen) ∨
    ∃ (b off len cap : Nat), cs = [.slice (some ⟨b, off, none⟩) len cap] ∧ 0 < len ∧ len ≤ cap ∧ cap ≤ maxLen ∧ b < w.heap.size ∧
      ∀ i, i < len → ∃ cs', cs'.length = P.cellsOf e ∧ Rd P w e cs' ∧ ∀ j, j < P.cellsOf e → w.cell? ⟨b, off + (i * P.cellsOf e + j), none⟩ = cs'[j]? := by
  obtain ⟨H, enc, fuel, x, h⟩ := h
  rcases DataW.trod_slice ht h with ⟨rfl, _⟩ | ⟨a, len, cap, elems, rest, n, _, rfl, _, hb, hl, hm, hlen, hel, _, _⟩
  · exact .inl ⟨none, 0, rfl, Nat.zero_le _⟩
  by_cases h0 : len = 0
  · subst h0; exact .inl ⟨some a, cap, rfl, hm⟩
  right
  obtain ⟨b, off, spot⟩ := a
  have key : ∀ i, i < len → ∃ cs', cs'.length = P.cellsOf e ∧ Rd P w e cs' ∧ ∀ j, j < P.cellsOf e → w.cell? (((⟨b, off, spot⟩ : Addr).add (i * P.cellsOf e)).add j) = cs'[j]? := fun i hi => by
    have h1 := hel i hi
    rw [List.getElem?_eq_getElem (by omega)] at h1
    obtain ⟨cs', h2, h3⟩ := Option.bind_eq_some_iff.1 h1
    obtain ⟨_, h4, h5⟩ := World.cells?_some h2
    exact ⟨cs', h4, ⟨H, enc, n, _, h3⟩, h5⟩
  · have hsp : spot = none := by
      obtain ⟨cs', h4, _, h5⟩ := key 0 (by omega)
      have h6 := h5 0 (by omega)
      rw [List.getElem?_eq_getElem (by omega)] at h6
      have h7 : w.cell? ⟨b, off, spot⟩ = some cs'[0] := by simpa [Addr.add] using h6
      simpa using World.cell?_spot h7
    subst hsp
    have eadd : ∀ i j, ((⟨b, off, none⟩ : Addr).add (i * P.cellsOf e)).add j = ⟨b, off + (i * P.cellsOf e + j), none⟩ := fun i j => by
      unfold Addr.add
      split <;> split <;> simp_all [Nat.add_assoc]
    refine ⟨b, off, len, cap, rfl, by omega, hl, hm, ?_, fun i hi => ?_⟩
    · obtain ⟨cs', h4, _, h5⟩ := key 0 (by omega)
      have h6 := h5 0 (by omega)
      rw [List.getElem?_eq_getElem (by omega), eadd] at h6
      exact World.block_lt_of_cell? w _ h6
    · obtain ⟨cs', h4, hr, h5⟩ := key i hi
      exact ⟨cs', h4, hr, fun j hj => by rw [← eadd]; exact h5 j hj⟩
end
end Go.Proofs.YtepdkcikkemieaaGreat
