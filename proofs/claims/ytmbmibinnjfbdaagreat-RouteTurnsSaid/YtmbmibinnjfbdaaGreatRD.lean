/- Records cloned and numbered. -/
import Derived.Test.YtmbmibinnjfbdaaGreatRB
import Derived.Test.YtmbmibinnjfbdaaGreatMF
import Derived.Lib.SliceRun
namespace Go.Proofs.YtmbmibinnjfbdaaGreat
open Go.ChangeShapes Go.WideShapes Go.ChangeAt Go.RowKit
set_option linter.unusedVariables false
set_option linter.unusedSimpArgs false
theorem info_recs : (Tryz.prog.info? 30).map (fun i => (i.zero, i.size, i.bytes)) = some (some (.agg #[.int .i64 0, .int .i64 0, .bool false, .string ⟨#[]⟩, .bool false, .string ⟨#[]⟩]), 6, 64) := by kernel_rfl
theorem rec_one (l : List Rec) : ∀ u ∈ l.flatMap recCells, u.oneCell' = true := by
  intro u hu
  obtain ⟨r, _, h⟩ := List.mem_flatMap.1 hu
  simp [recCells] at h
  rcases h with h | h | h | h | h | h <;> (subst h; rfl)
theorem recCells_len' (r : Rec) : (recCells r).length = 6 := rfl
set_option maxRecDepth 100000 in
set_option maxHeartbeats 800000 in
theorem clone_recs (a : Option Addr) (cap : Nat) (l : List Rec) (w : World) (h : RecsAt w a l) (hl : l.length ≤ 1000000) : Calls Tryz.prog 22 #[.slice a l.length cap] w fun e w' => ∃ v', e = .returned v' ∧ Made w w' 30 6 v' l.length (l.flatMap recCells) := by
  obtain ⟨i0, hi, hz0, hz1, hz2⟩ := info_parts info_recs
  have HV := Lib.hid h
  have q1 := fun (w : World) (a : Option Addr) (n c : Nat) => Lib.run_eql_slice_nil (P := Tryz.prog) w 22 30 a n c 0 0 Tryz.underlying22
  have HONE := Lib.hid (rec_one l)
  cases a with
  | none =>
    have hl0 : l = [] := by
      by_cases h0 : l = []
      · exact h0
      · obtain ⟨b, off, h1, _⟩ := h.out h0; cases h1
    subst hl0
    clear h
    refine calls_wd ?_
    go_enter Tryz.func22, Tryz.ntmps22
    go_wp2
    go_ret
    exact ⟨_, rfl, by rw [← wd_empty]; exact made_of (rowIn_nil _ _ _ _ _)⟩
  | some ad =>
    clear h
    have HLIT := Lib.hid (rowIn_lit w.heap.size [] #[] 30 6 0 (by decide) rfl)
    obtain ⟨X, hX⟩ : ∃ X, l.flatMap recCells = X := ⟨_, rfl⟩
    have HRD := Lib.hid (fun W hm => hX ▸ (HV.out.more (w' := W) hm).rd recCells_len' cap)
    rw [hX] at HONE ⊢
    obtain ⟨N, hN⟩ : ∃ N, l.length = N := ⟨_, rfl⟩
    rw [hN] at HRD hl ⊢
    clear hX HV
    refine calls_wd ?_
    go_enter Tryz.func22, Tryz.ntmps22
    go_wp2_with (at_builtin; refine wp_append_src (L := []) rfl _ _ _ rfl 30 i0 _ 6 64 Tryz.underlying22 hi hz0 hz1 hz2 rfl (by decide) (m := #[.cells #[] 30]) (n := w.drawn) rfl (.slice (some ⟨sz w.heap.size [], 0, none⟩) 0 0) 0 [] rfl HLIT.out (.slice (some ad) N cap) N X rfl (HRD.out _ (more_wd _ _ _)) HONE.out (by unfold maxLen; omega) (by omega) ?_; intro v' m' hrow')
    go_ret
    exact ⟨_, rfl, made_of (by have h := hrow'; simp only [Nat.zero_add, List.nil_append] at h; exact h)⟩
/-! ### numbered, plainly -/
def numR (r : Rec) (k : Nat) : Rec := { r with delta := (k : Int) }
def numK (k : Nat) (l : List Rec) : List Rec := l.mapIdx fun i r => if i < k then numR r i else r
def numF (l : List Rec) : List Rec := l.mapIdx fun i r => numR r i
theorem numF_len (l : List Rec) : (numF l).length = l.length := by simp [numF]
theorem numK_len (k : Nat) (l : List Rec) : (numK k l).length = l.length := by simp [numK]
theorem numK_zero (l : List Rec) : numK 0 l = l := by
  apply List.ext_getElem?
  intro i
  simp [numK]
theorem numK_all (l : List Rec) (k : Nat) (h : l.length ≤ k) : numK k l = numF l := by
  apply List.ext_getElem?
  intro i
  simp only [numK, numF, List.getElem?_mapIdx]
  by_cases hi : i < l.length
  · have : i < k := by omega
    simp [this]
  · rw [List.getElem?_eq_none (by omega)]; rfl
theorem numK_get (k : Nat) (l : List Rec) (x : Rec) (hx : l[k]? = some x) : (numK k l)[k]? = some x := by
  simp [numK, hx]
theorem numK_step (k : Nat) (l : List Rec) (x : Rec) (hx : l[k]? = some x) : numK (k + 1) l = (numK k l).set k (numR x k) := by
  have hk : k < l.length := (List.getElem?_eq_some_iff.1 hx).1
  apply List.ext_getElem?
  intro i
  simp only [numK, List.getElem?_mapIdx, List.getElem?_set, List.length_mapIdx]
  by_cases hi : k = i
  · subst hi
    rw [if_pos rfl, if_pos hk, hx]
    simp
  · rw [if_neg hi]
    by_cases hj : i < k
    · simp [hj, Nat.lt_succ_of_lt hj]
    · have : ¬ i < k + 1 := by omega
      simp [hj, this]
theorem flat_set {α : Type} (cells : α → List Value) (size : Nat) (hs : ∀ x, (cells x).length = size) (hp : 0 < size) : ∀ (l : List α) (k : Nat) (x x' : α) (v : Value), l[k]? = some x → cells x' = (cells x).set 0 v → (l.set k x').flatMap cells = (l.flatMap cells).set (k * size) v
  | [], k, x, x', v, h, _ => by cases h
  | y :: l, 0, x, x', v, h, he => by
    cases h
    simp only [List.set_cons_zero, List.flatMap_cons, Nat.zero_mul]
    rw [he, List.set_append_left _ _ (by rw [hs]; exact hp)]
  | y :: l, k + 1, x, x', v, h, he => by
    simp only [List.set_cons_succ, List.flatMap_cons]
    rw [flat_set cells size hs hp l k x x' v (by simpa using h) he, List.set_append_right _ _ (by rw [hs, Nat.succ_mul]; omega)]
    congr 2
    rw [hs, Nat.succ_mul]; omega
theorem numK_cells (k : Nat) (l : List Rec) (x : Rec) (hx : l[k]? = some x) : (numK (k + 1) l).flatMap recCells = ((numK k l).flatMap recCells).set (k * 6) (.int .i64 (k : Int)) := by
  rw [numK_step k l x hx]
  exact flat_set recCells 6 recCells_len' (by decide) _ _ x _ _ (numK_get k l x hx) rfl
theorem flat_head (k : Nat) (l : List Rec) (x : Rec) (hx : l[k]? = some x) : ((numK k l).flatMap recCells)[k * 6]? = some (.int .i64 x.delta) := by
  have := flat_at recCells 6 recCells_len' (numK k l) k x 0 (numK_get k l x hx) (by decide)
  simpa [recCells] using this
theorem row_val {B : Nat} {S : List Nat} {e : Array Obj} {E : TypeId} {size : Nat} {v : Value} {n : Nat} {xs : List Value} (h : rowIn B S e E size v n xs) : ∃ a' cp, v = .slice a' n cp ∧ (n = 0 ∨ ∃ j, a' = some ⟨at' B S j, 0, none⟩ ∧ j < e.size) := by
  rcases rowIn_look h with ⟨rfl, rfl, _⟩ | ⟨j, cp, rfl, _, _, hj, _⟩
  · exact ⟨_, _, rfl, .inl rfl⟩
  · exact ⟨_, _, rfl, .inr ⟨j, rfl, hj⟩⟩
set_option maxRecDepth 100000 in
set_option maxHeartbeats 1600000 in
theorem numbered_any (a : Option Addr) (cap : Nat) (l : List Rec) (w : World) (h : RecsAt w a l) (hl : l.length ≤ 1000000) : Calls Tryz.prog 15 #[.slice a l.length cap] w fun e w' => ∃ v', e = .returned v' ∧ Made w w' 30 6 v' l.length ((numF l).flatMap recCells) := by
  have HC := Lib.hid (fun W hm => clone_recs a cap l W (h.more (w' := W) hm) hl)
  clear h
  obtain ⟨N, hN⟩ : ∃ N, l.length = N := ⟨_, rfl⟩
  have HL := Lib.hid hN
  rw [hN] at HC hl ⊢
  clear hN
  refine calls_wd ?_
  go_enter Tryz.func15, Tryz.ntmps15
  go_wp2_with (first | ((go_at_call 22; ((with_reducible refine (HC.out _ (more_wd _ _ _)).mono ?_); rintro e w1 ⟨v, rfl, x1⟩; obtain ⟨m, rfl, hr⟩ := x1.wd; clear x1)); obtain ⟨a', cp, rfl, hcase⟩ := row_val hr))
  have HR := Lib.hid hr
  have HCASE := Lib.hid hcase
  clear hr HC hcase
  go_loopw [8] (fun i wr => ∃ (k : Nat) (E : Array Obj), k ≤ N ∧ i = .int .i64 k ∧ E.size = m.e.size ∧ rowIn w.heap.size [] E 30 6 (.slice a' N cp) N ((numK k l).flatMap recCells) ∧ wr = wd w [E] m.n) (fun i _ => N - (intOf i).toNat)
  case atStart => exact ⟨0, m.e, Nat.zero_le _, rfl, rfl, by rw [numK_zero]; exact HR.out, rfl⟩
  case round =>
    obtain ⟨k, E, hk, rfl, hE, hR, rfl⟩ := hrel
    by_cases hlt : k < N
    · obtain ⟨j, rfl, hj⟩ : ∃ j, a' = some ⟨at' w.heap.size [] j, 0, none⟩ ∧ j < m.e.size := by
        rcases HCASE.out with h | h
        · omega
        · exact h
      obtain ⟨x, hx⟩ : ∃ x, l[k]? = some x := ⟨_, List.getElem?_eq_getElem (by rw [HL.out]; exact hlt)⟩
      obtain ⟨cur, hcur⟩ := row_block hR
      have c0 := (row_cell hR (k * 6) (by omega)).trans (flat_head k l x hx)
      have f0 := fun i => wd_frozen_in w [] m.n w.heap.size j i [] E cur _ rfl rfl hcur
      have HP := Lib.hid ((row_put hR (k * 6) (.int .i64 (k : Int))))
      rw [← numK_cells k l x hx] at HP
      have hj2 : j < E.size := by omega
      clear hR hx hcur
      go_wp2
      trace_state
      go_roundw
      case rel => exact ⟨k + 1, putIn E j (k * 6) (.int .i64 (k : Int)), by omega, by go_num, by rw [putIn_size]; exact hE, HP.out, by first | rfl | trivial⟩
      case measure => simp [intOf]; omega
    · have HE := Lib.hid hR
      clear hR
      go_wp2
      go_ret
      have hR := HE.out
      rw [numK_all l k (by rw [HL.out]; omega)] at hR
      exact ⟨.slice a' N cp, rfl, made_of hR⟩
end Go.Proofs.YtmbmibinnjfbdaaGreat
