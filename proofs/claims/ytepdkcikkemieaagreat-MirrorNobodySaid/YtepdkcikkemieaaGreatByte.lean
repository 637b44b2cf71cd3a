/- Byte slices: 'RB w v l': the bytes l can be read off the slice v in w. -/
import Derived.Test.YtepdkcikkemieaaGreatData
namespace Go.Proofs.YtepdkcikkemieaaGreat
open Go.ChangeShapes Go.WideShapes Go.ChangeAt Go.RowKit
set_option linter.unusedVariables false
set_option linter.unusedSimpArgs false

def RB (w : World) (v : Value) (l : List UInt8) : Prop :=
  ∃ a cap, v = .slice a l.length cap ∧ l.length ≤ cap ∧ cap ≤ maxLen ∧ (l ≠ [] → ∃ b off, a = some ⟨b, off, none⟩ ∧ b < w.heap.size ∧ ∀ i, i < l.length → w.cell? ⟨b, off + i, none⟩ = (Lib.byteCells l)[i]?)
theorem bc_len (l : List UInt8) : (Lib.byteCells l).length = l.length := Lib.byteCells_length l
theorem bc_get (l : List UInt8) (i : Nat) : (Lib.byteCells l)[i]? = l[i]?.map fun b => Value.int .u8 b.toNat := by simp [Lib.byteCells]
theorem bc_one (l : List UInt8) : ∀ u ∈ Lib.byteCells l, u.oneCell' = true := by
  intro u hu
  simp only [Lib.byteCells, List.mem_map] at hu
  obtain ⟨b, _, rfl⟩ := hu
  rfl
theorem bc_append (a b : List UInt8) : Lib.byteCells (a ++ b) = Lib.byteCells a ++ Lib.byteCells b := Lib.byteCells_append a b
theorem RB.more {w w' : World} {v : Value} {l : List UInt8} (h : RB w v l) (hm : More w w') : RB w' v l := by
  obtain ⟨a, cap, hv, h1, h2, h3⟩ := h
  refine ⟨a, cap, hv, h1, h2, fun hne => ?_⟩
  obtain ⟨b, off, ha, hb, hc⟩ := h3 hne
  have bel := hm.below
  exact ⟨b, off, ha, Nat.lt_of_lt_of_le hb bel.size, fun i hi => by rw [bel.cell hb]; exact hc i hi⟩
theorem RB.rd {w : World} {v : Value} {l : List UInt8} (h : RB w v l) : RdRow w 1 v l.length (Lib.byteCells l) := by
  obtain ⟨a, cap, hv, h1, h2, h3⟩ := h
  refine ⟨by rw [bc_len, Nat.mul_one], ?_⟩
  by_cases hne : l = []
  · subst hne; exact .inl ⟨rfl, a, cap, hv⟩
  · obtain ⟨b, off, rfl, hb, hc⟩ := h3 hne
    exact .inr ⟨b, off, cap, hv, hb, fun i hi => hc i (by omega)⟩
theorem RB.of_row {w : World} {L : List (Array Obj)} {k : Nat} {e : Array Obj} {E : TypeId} {v : Value} {n : Nat} {xs : List Value} (h : rowIn w.heap.size (shape L) e E 1 v n xs) (l : List UInt8) (hx : xs = Lib.byteCells l) : RB (wd w (e :: L) k) v l := by
  subst hx
  have hl := h.1
  rw [bc_len, Nat.mul_one] at hl
  subst hl
  rcases rowIn_look h with ⟨rfl, h0, _⟩ | ⟨j, cap, rfl, hn, hm, hj, hc⟩
  · have : l = [] := List.eq_nil_of_length_eq_zero h0
    subst this
    exact ⟨none, 0, rfl, Nat.le_refl _, Nat.zero_le _, fun h => absurd rfl h⟩
  · refine ⟨_, cap, rfl, hn, hm, fun _ => ⟨_, 0, rfl, ?_, fun i hi => ?_⟩⟩
    · rw [wd_size, shape_cons]; simp only [at', sz]; omega
    · rw [Nat.zero_add, wd_cell_in w L k _ j i _ e rfl rfl]; exact hc i (by omega)
theorem RB.of_block {w : World} {b : Nat} {C : Array Value} {t : TypeId} {fr : Nat × Nat} (hb : w.heap[b]? = some (.cells C t fr)) (l : List UInt8) (cap : Nat) (hcap : l.length ≤ cap) (hm : cap ≤ maxLen) (hC : ∀ i, i < l.length → C[i]? = (Lib.byteCells l)[i]?) : RB w (.slice (some ⟨b, 0, none⟩) l.length cap) l := by
  refine ⟨_, cap, rfl, hcap, hm, fun _ => ⟨b, 0, rfl, (Array.getElem?_eq_some_iff.1 hb).1, fun i hi => ?_⟩⟩
  rw [Nat.zero_add, ← hC i hi]
  simp [World.cell?, hb]
theorem RB.nil (w : World) : RB w (.slice none 0 0) [] := ⟨none, 0, rfl, Nat.le_refl _, Nat.zero_le _, fun h => absurd rfl h⟩
/-- A string of the bytes l. -/
def str (l : List UInt8) : ByteArray := ⟨l.toArray⟩
theorem str_data (l : List UInt8) : (str l).data.toList = l := rfl
theorem str_size (l : List UInt8) : (str l).size = l.length := by show l.toArray.size = _; simp
theorem str_of (s : ByteArray) : str s.data.toList = s := rfl
theorem str_inj {a b : List UInt8} : str a = str b ↔ a = b := ⟨fun h => by have := congrArg (fun s => s.data.toList) h; simpa [str] using this, fun h => by rw [h]⟩
/-- 'string(v)'. -/
theorem RB.run_str {P : Program} {w : World} {v : Value} {l : List UInt8} (h : RB w v l) (src dst e : TypeId) (hs : P.underlying src = some (.slice e)) (he : P.underlying e = some (.int .u8)) (hd : P.underlying dst = some .string) :
    (convert src dst v).run P w = .ok (.string (str l)) w := by
  obtain ⟨a, cap, rfl, h1, h2, h3⟩ := h
  by_cases hne : l = []
  · subst hne
    cases a with
    | none => exact (run_convert_bytes_string w src dst e none 0 cap hs he hd).trans (by simp [Conv.bytesToString]; rfl)
    | some ad => exact run_convert_bytes_back w src dst e ad cap [] hs he hd (fun j hj => by simp at hj)
  · obtain ⟨b, off, rfl, hb, hc⟩ := h3 hne
    refine run_convert_bytes_back w src dst e ⟨b, off, none⟩ cap l hs he hd fun j hj => ?_
    rw [addr_add, hc j hj, bc_get, List.getElem?_eq_getElem hj]
    rfl
/-- 'v[k:]'. -/
def dropS (a : Option Addr) (len cap k : Nat) : Value := .slice (if cap = k then a else a.map (·.add (k * 1))) (len - k) (cap - k)
def dropV : Value → Nat → Value
  | .slice a len cap, k => dropS a len cap k
  | v, _ => v
def takeV : Value → Nat → Value
  | .slice a _ cap, k => .slice a k cap
  | v, _ => v
theorem RB.drop {w : World} {v : Value} {l : List UInt8} (h : RB w v l) (k : Nat) (hk : k ≤ l.length) : RB w (dropV v k) (l.drop k) := by
  obtain ⟨a, cap, rfl, h1, h2, h3⟩ := h
  refine ⟨_, cap - k, by rw [List.length_drop]; rfl, by rw [List.length_drop]; omega, by omega, fun hne => ?_⟩
  have hk' : k < l.length := by
    rcases Nat.lt_or_ge k l.length with h | h
    · exact h
    · exact absurd (List.drop_eq_nil_of_le h) hne
  obtain ⟨b, off, rfl, hb, hc⟩ := h3 (by intro h; subst h; simp at hk')
  refine ⟨b, off + k, ?_, hb, fun i hi => ?_⟩
  · rw [if_neg (by omega)]; simp [addr_add]
  · rw [List.length_drop] at hi
    rw [Nat.add_assoc, hc (k + i) (by omega), bc_get, bc_get, List.getElem?_drop]
theorem RB.take {w : World} {v : Value} {l : List UInt8} (h : RB w v l) (k : Nat) (hk : k ≤ l.length) : RB w (takeV v k) (l.take k) := by
  obtain ⟨a, cap, rfl, h1, h2, h3⟩ := h
  have hl : (l.take k).length = k := by rw [List.length_take]; omega
  refine ⟨a, cap, by rw [hl]; rfl, by omega, h2, fun hne => ?_⟩
  obtain ⟨b, off, rfl, hb, hc⟩ := h3 (by intro h; subst h; simp at hne)
  refine ⟨b, off, rfl, hb, fun i hi => ?_⟩
  rw [hl] at hi
  rw [hc i (by omega), bc_get, bc_get, List.getElem?_take, if_pos hi]
theorem run_slice_from {P : Program} (t e : TypeId) (ht : P.underlying t = some (.slice e)) (hz : ∀ w, (Go.sizeOf e).run P w = .ok 1 w) {w : World} {v : Value} {l : List UInt8} (h : RB w v l) (k : Int) (h0 : 0 ≤ k) (hk : k ≤ l.length) (W : World) :
    (Instr.slice t v (some (.int .i64 k)) none none).run P W = .ok (dropV v k.toNat) W := by
  obtain ⟨a, cap, rfl, h1, h2, h3⟩ := h
  have ht' : P.underlying t = some (.slice (P.elem t)) := by simp [Program.elem, ht]
  have he : P.elem t = e := by simp [Program.elem, ht]
  rw [run_slice_l W t _ _ _ ht' .i64 _ h0 hk, he, hz]
  rfl
theorem run_slice_to {P : Program} (t e : TypeId) (ht : P.underlying t = some (.slice e)) (hz : ∀ w, (Go.sizeOf e).run P w = .ok 1 w) {w : World} {v : Value} {l : List UInt8} (h : RB w v l) (k : Int) (h0 : 0 ≤ k) (hk : k ≤ l.length) (W : World) :
    (Instr.slice t v none (some (.int .i64 k)) none).run P W = .ok (takeV v k.toNat) W := by
  obtain ⟨a, cap, rfl, h1, h2, h3⟩ := h
  have ht' : P.underlying t = some (.slice (P.elem t)) := by simp [Program.elem, ht]
  have he : P.elem t = e := by simp [Program.elem, ht]
  rw [run_slice_h W t _ _ _ ht' .i64 _ h0 (by omega), he, hz]
  simp only [Result.andThen, sliced, takeV, Nat.zero_mul, Nat.sub_zero]
  congr 2
  split
  · rfl
  · cases a with
    | none => rfl
    | some a => obtain ⟨b, o, sp⟩ := a; simp [Addr.add]
end Go.Proofs.YtepdkcikkemieaaGreat
