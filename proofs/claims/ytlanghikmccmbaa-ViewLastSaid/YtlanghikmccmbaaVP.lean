/- law 36, the document's Build: the walk (UNDER WAY: ends in sorry). -/
import Derived.Test.YtlanghikmccmbaaVO
import Derived.Test.YtlanghikmccmbaaMI
import Derived.Test.YtlanghikmccmbaaMF
namespace Go.Proofs.Ytlanghikmccmbaa
open Go.ChangeShapes Go.WideShapes Go.ChangeAt Go.RowKit
set_option linter.unusedVariables false
set_option linter.unusedSimpArgs false
def buildG (v : Vw) : List Bat → Vw × Int
  | [] => (v, 0)
  | b :: l => if (applyR v b).2 ≠ 0 then (Vw.zero, (applyR v b).2) else buildG (applyR v b).1 l
def Small (v : Vw) : Prop := (∀ x ∈ v.rows, x.key.length ≤ maxLen ∧ x.value.length ≤ maxLen) ∧ v.rows.length ≤ maxLen
theorem oneR_mem {l : List VRow} {r : Rec} {o : Int} {x : VRow} (h : x ∈ oneR l r o) : x ∈ l ∨ x = rowOf r o := by
  have hw : ∀ y, y ∈ wo r.key l → y ∈ l := fun y hy => (List.mem_filter.1 hy).1
  unfold oneR at h
  split at h
  · exact .inl h
  · split at h
    · exact .inl (hw x h)
    · rcases List.mem_append.1 h with h | h
      · rcases List.mem_append.1 h with h | h
        · exact .inl (hw x (List.mem_of_mem_take h))
        · exact .inr (by simpa using h)
      · exact .inl (hw x (List.mem_of_mem_drop h))
theorem foldR_mem (base : Int) : ∀ (rs : List Rec) (l : List VRow) (x : VRow), x ∈ foldR base l rs → x ∈ l ∨ ∃ r ∈ rs, x = rowOf r (base + r.delta)
  | [], l, x, h => .inl h
  | r :: rs, l, x, h => by
    rcases foldR_mem base rs (oneR l r (base + r.delta)) x h with h1 | ⟨r', h1, h2⟩
    · rcases oneR_mem h1 with h2 | h2
      · exact .inl h2
      · exact .inr ⟨r, by simp, h2⟩
    · exact .inr ⟨r', by simp [h1], h2⟩
theorem small_apply (v : Vw) (b : Bat) (h : Small v) : Small (applyR v b).1 := by
  unfold applyR
  split
  · exact h
  · split
    · exact h
    · next hb =>
      split
      · exact h
      · split
        · exact h
        · next hlen =>
          have hb0 : batCheck b = 0 := Classical.byContradiction hb
          have hc := chk_all b.recs (-1) b.count (batCheck_ok hb0).2
          refine ⟨fun x hx => ?_, by show (foldR b.base v.rows b.recs).length ≤ maxLen; unfold maxLen; omega⟩
          rcases foldR_mem b.base b.recs v.rows x hx with h1 | ⟨r, h1, h2⟩
          · exact h.1 x h1
          · have h3 := (recCheck_ok (hc r h1)).2.1
            rw [h2]
            show r.key.length ≤ maxLen ∧ r.value.length ≤ maxLen
            unfold maxLen; omega
end Go.Proofs.Ytlanghikmccmbaa
