/- law 36, ViewGoes: what the walk asks of the functions that the law calls. -/
import Derived.Test.YtlanghikmccmbaaGA
import Derived.Test.YtlanghikmccmbaaLD
import Derived.Test.YtlanghikmccmbaaVH
namespace Go.Proofs.Ytlanghikmccmbaa
open Go.ChangeShapes Go.WideShapes Go.ChangeAt Go.RowKit
set_option linter.unusedVariables false
set_option linter.unusedSimpArgs false
theorem sz_batch : ∀ w, (Go.sizeOf 67).run Try.prog w = .ok 6 w := fun w => by
  have := Try.sizeOf67 w
  exact this
/-- The first k batches. -/
theorem bslice_to {ad : Option Addr} {l : List Btm} (cap K : Nat) (hK : K ≤ l.length) (hlc : l.length ≤ cap) (hcm : cap ≤ 9223372036854775807) :
    ∃ a', (∀ W, (Instr.slice 60 (.slice ad l.length cap) none (some (.int .i64 (K : Int))) none).run Try.prog W = .ok (.slice a' K cap) W) ∧ ∀ w, BatsAt w ad l → BatsAt w a' (l.take K) := by
  have ht' : Try.prog.underlying 60 = some (.slice (Try.prog.elem 60)) := by simp [Program.elem, Try.underlying60]
  have he : Try.prog.elem 60 = 67 := by simp [Program.elem, Try.underlying60]
  refine ⟨if cap = 0 then ad else ad.map (·.add (0 * 6)), fun W => ?_, fun w h => ⟨⟨fun hne => ?_⟩, fun x hx => h.each x (List.mem_of_mem_take hx)⟩⟩
  · rw [run_slice_h W 60 ad l.length cap ht' .i64 _ (by omega) (by omega), he, sz_batch]
    simp [Result.andThen, sliced]
  · have hl : l ≠ [] := by intro h0; subst h0; simp at hne
    obtain ⟨b, off, rfl, hb, hc⟩ := h.row.out hl
    refine ⟨b, off, ?_, hb, fun i hi => ?_⟩
    · split
      · rfl
      · simp [Addr.add]
    · have hl2 : i < l.length * 6 := by rw [List.length_take] at hi; omega
      rw [hc i hl2]
      have e1 : l.flatMap btmCells = (l.take K).flatMap btmCells ++ (l.drop K).flatMap btmCells := by rw [← List.flatMap_append, List.take_append_drop]
      rw [e1, List.getElem?_append_left (by rw [flat_len btmCells 6 btmCells_len]; exact hi)]
/-- A view handed back, and no error. -/
structure VwB (w w' : World) (x : Ending) (v : Vw) : Prop where
  out : ∃ a c, x = .returned (.tuple #[.agg #[.int .i64 v.next, .slice a v.rows.length c], .int .i64 0]) ∧ VRowsAt w' a v.rows ∧ More w w'
theorem vwb_of {w w' : World} {x : Ending} {g : Vw × Int} {v : Vw} (h : VwRet w w' x g) (hg : g = (v, 0)) : VwB w w' x v := by
  subst hg
  obtain ⟨a, c, h1, h2, h3, _⟩ := h.out
  exact ⟨a, c, h1, h2, h3⟩
structure VwBF (w w' : World) (x : Ending) (v : Vw) : Prop where
  out : ∃ a c, x = .returned (.tuple #[.agg #[.int .i64 v.next, .slice a v.rows.length c], .int .i64 0]) ∧ VRowsAt w' a v.rows ∧ More w w' ∧ From w.heap.size a v.rows
theorem vwb_ap {w w' : World} {x : Ending} {g : Vw × Int} {v : Vw} (h : ApRet w w' x g) (hg : g = (v, 0)) : VwBF w w' x v := by
  subst hg
  obtain ⟨a, c, h1, h2, h3, h4⟩ := h.out
  exact ⟨a, c, h1, h2, h3, h4 rfl⟩
/-- The view of the first i batches. -/
def upV (l : List Btm) (i : Nat) : Vw := goVs Vw.zero ((l.take i).map Btm.b)
structure GoesOk (w : World) (ad : Option Addr) (cap : Nat) (l : List Btm) (k : Nat) (S : List VRow) : Prop where
  part : ∀ W a', BatsAt W a' (l.take k) → Calls Try.prog 28 #[.slice a' k cap] W fun e w' => VwB W w' e (upV l k)
  all : ∀ W, More w W → Calls Try.prog 28 #[.slice ad l.length cap] W fun e w' => VwB W w' e (upV l l.length)
  put : ∀ W a c, VRowsAt W a (upV l k).rows → Calls Try.prog 21 #[.agg #[.int .i64 (upV l k).next, .slice a (upV l k).rows.length c]] W fun e w' => BRet W w' e (viewLay (upV l k)) 0
  read : ∀ W v, RB W v (viewLay (upV l k)) → Calls Try.prog 23 #[v] W fun e w' => VwB W w' e (upV l k)
  same : ∀ W i a1 c1 a2 c2, i ≤ l.length → VRowsAt W a1 (upV l i).rows → VRowsAt W a2 (upV l i).rows → Calls Try.prog 19 #[.agg #[.int .i64 (upV l i).next, .slice a1 (upV l i).rows.length c1], .agg #[.int .i64 (upV l i).next, .slice a2 (upV l i).rows.length c2]] W fun e w' => e = .returned (.bool true) ∧ More W w'
  apply : ∀ (i : Nat) x, l[i]? = some x → ∀ W a c, More w W → VRowsAt W a (upV l i).rows → Calls Try.prog 29 #[.agg #[.int .i64 (upV l i).next, .slice a (upV l i).rows.length c], .agg #[.int .i64 x.b.base, .int .i64 x.b.count, .int .i64 x.b.producer, .int .i64 x.b.epoch, .int .i64 x.b.seq, .slice x.a x.b.recs.length x.cap]] W fun e w' => VwBF W w' e (upV l (i + 1))
  since : ∀ W a c, VRowsAt W a (upV l l.length).rows → Calls Try.prog 17 #[.agg #[.int .i64 (upV l l.length).next, .slice a (upV l l.length).rows.length c], .int .i64 (upV l k).next] W fun e w' => RowsIs W w' e S.length S
  get : ∀ x ∈ (upV l l.length).rows, x.offset < (upV l k).next → ∀ W a c, VRowsAt W a (upV l k).rows → Calls Try.prog 11 #[.agg #[.int .i64 (upV l k).next, .slice a (upV l k).rows.length c], .string (str x.key)] W fun e w' => e = .returned (.tuple #[rowA x, .bool true]) ∧ More W w'
  late : SortedF VRow.offset S ∧ (∀ x ∈ S, (upV l k).next ≤ x.offset) ∧ ((upV l l.length).rows.filter (fun x => decide (x.offset < (upV l k).next))).length + S.length = (upV l l.length).rows.length
  small : (upV l l.length).rows.length ≤ 4096 ∧ S.length ≤ 4096
theorem take_rises {l : List Btm} (h : risesB 0 (l.map Btm.b) = true) (i : Nat) : risesB 0 ((l.take i).map Btm.b) = true ∧ risesB (upV l i).next ((l.drop i).map Btm.b) = true := by
  have e : l.map Btm.b = (l.take i).map Btm.b ++ (l.drop i).map Btm.b := by rw [← List.map_append, List.take_append_drop]
  rw [e] at h
  exact rises_app _ _ Vw.zero h
theorem up_good {l : List Btm} (h : risesB 0 (l.map Btm.b) = true) (hl : l.length ≤ 12) (i : Nat) : buildG Vw.zero ((l.take i).map Btm.b) = (upV l i, 0) ∧ viewCheck (upV l i) = 0 ∧ (upV l i).rows.length ≤ 384 := by
  have hle : ((l.take i).map Btm.b).length ≤ 12 := by rw [List.length_map, List.length_take]; omega
  obtain ⟨h1, h2, h3⟩ := build_good ((l.take i).map Btm.b) Vw.zero zero_good (take_rises h i).1 (by show 0 + _ ≤ _; omega)
  exact ⟨h1, h2, by have : (upV l i).rows.length ≤ 0 + 32 * ((l.take i).map Btm.b).length := h3; omega⟩
theorem up_small {l : List Btm} (h : risesB 0 (l.map Btm.b) = true) (hl : l.length ≤ 12) (i : Nat) : ∀ x ∈ (upV l i).rows, x.key.length ≤ maxLen ∧ x.value.length ≤ maxLen := fun x hx => by
  have := rowE_ok (rowsE_each (viewCheck_ok (up_good h hl i).2.1).2.2.2.1 x hx)
  unfold maxLen
  exact ⟨by omega, by omega⟩
theorem up_succ {l : List Btm} {i : Nat} {x : Btm} (hx : l[i]? = some x) : upV l (i + 1) = goV (upV l i) x.b := by
  unfold upV goVs
  rw [List.take_add_one, hx]
  simp
theorem filter_len_split {α : Type} (f : α → Bool) : ∀ l : List α, (l.filter f).length + (l.filter fun x => !f x).length = l.length
  | [] => rfl
  | x :: l => by
    have ih := filter_len_split f l
    cases h : f x <;> simp [h] <;> omega
theorem viewLay_len {v : Vw} (h : viewCheck v = 0) : (viewLay v).length ≤ 1099511627776 := by
  obtain ⟨⟨hx1, hx2⟩, h4096, hfit⟩ := view_fit h
  have h1 := put_len hx1 hx2
  have h2 := put_len (n := (v.rows.length : Int)) (by omega) (by omega)
  have h3 := rowsB_len v.rows v.rows.length hfit
  rw [List.take_length] at h3
  unfold viewLay
  simp only [List.length_append]
  omega
theorem goes_ok (ad : Option Addr) (cap : Nat) (l : List Btm) (k : Nat) (w : World) (hB : BatsAt w ad l) (hf : ∀ x ∈ l, x.b.recs.length ≤ maxLen) (hl : l.length ≤ 12) (hr : risesB 0 (l.map Btm.b) = true) (hk : k ≤ l.length) : ∃ S, GoesOk w ad cap l k S := by
  obtain ⟨S, s1, s2, s3⟩ := sorted_ex (f := VRow.offset) (keepR (fun x => decide (x.offset < (upV l k).next)) (upV l l.length).rows)
  have G := fun i => up_good hr hl i
  have hm : ∀ n : Nat, n ≤ 384 → n ≤ maxLen := fun n h => by unfold maxLen; omega
  have hlk : (l.take k).length = k := by rw [List.length_take]; omega
  have hlm : l.length ≤ maxLen := by unfold maxLen; omega
  have hup : ∀ i x, l[i]? = some x → applyR (upV l i) x.b = (upV l (i + 1), 0) := fun i x hx => by
    have h1 := (take_rises hr i).2
    rw [drop_at l i x hx, List.map_cons] at h1
    obtain ⟨r1, r2, _⟩ := rises_cons h1
    have hrl := (batNum_ok (batCheck_ok r1).1).2.2.2.2.2.2.2.2.2.2
    have h3 := (G i).2.2
    rw [up_succ hx]
    exact (go_good (G i).2.1 r1 r2 (by omega)).1
  have hput : viewPut (upV l k) = (viewLay (upV l k), 0) := by unfold viewPut; rw [if_neg (by rw [(G k).2.1]; simp)]
  have hasc : ∀ i, ascB (upV l i).rows = true := fun i => (viewCheck_ok (G i).2.1).2.2.2.2
  have hSl : S.length ≤ 384 := by rw [s3]; exact Nat.le_trans (keepR_len _ _) (G l.length).2.2
  refine ⟨S, ?_⟩
  constructor
  · intro W a' h
    have := pbuild_any a' cap (l.take k) W h (fun x hx => hf x (List.mem_of_mem_take hx)) (by rw [hlk]; omega)
    rw [hlk] at this
    exact this.mono fun e w' h => vwb_of h (G k).1
  · intro W hW
    have h9 := (G l.length).1
    rw [List.take_length] at h9
    exact (pbuild_any ad cap l W (hB.more hW) hf hlm).mono fun e w' h => vwb_of h h9
  · intro W a c h
    have := vput_any (upV l k) a c W h (up_small hr hl k) (hm _ (G k).2.2)
    rw [hput] at this
    exact this
  · intro W v h
    have h2 := viewGet_put hput
    have hlen : (viewLay (upV l k)).length ≤ 1099511627776 := viewLay_len (G k).2.1
    exact (vread_any v _ W h hlen).mono fun e w' h => vwb_of h h2
  · intro W i a1 c1 a2 c2 hi h1 h2
    have := pvsame_any (upV l i) (upV l i) a1 a2 c1 c2 W h1 h2 (hm _ (G i).2.2) (hm _ (G i).2.2)
    rw [decide_eq_true rfl] at this
    exact this
  · intro i x hx W a c hW h
    have hmem := List.mem_of_getElem? hx
    have := papply_any (upV l i) a c x.b x.a x.cap W h (up_small hr hl i) (hm _ (G i).2.2) ((hB.each x hmem).more hW) (hf x hmem)
    rw [applyP_ok (hup i x hx)] at this
    exact this.mono fun e w' h => vwb_ap h rfl
  · intro W a c h
    exact (psince_any (upV l l.length) _ a c W h (by have := (G l.length).2.2; omega)).mono fun e w' h => rowsis_of rfl (snc_eq h s1 s2)
  · intro x hx hlt W a c h
    have hold : x ∈ (upV l k).rows := by
      have e : upV l l.length = goVs (upV l k) ((l.drop k).map Btm.b) := by
        unfold upV goVs
        rw [List.take_length, ← List.foldl_append, ← List.map_append, List.take_append_drop]
      rw [e] at hx
      exact goVs_old _ _ _ (Int.le_refl _) (take_rises hr k).2 x hx hlt
    have := pget_good (upV l k) (hasc k) x.key a c W h (by have := (G k).2.2; omega)
    rw [asc_find (hasc k) hold] at this
    exact this
  · refine ⟨s1, fun x hx => ?_, ?_⟩
    · have := (s2.mem x).1 hx
      unfold keepR at this
      simp only [List.mem_filter, Bool.not_eq_true', decide_eq_false_iff_not] at this
      omega
    · rw [s3]
      unfold keepR
      exact filter_len_split _ _
  · have := (G l.length).2.2
    exact ⟨by omega, by omega⟩
end Go.Proofs.Ytlanghikmccmbaa
