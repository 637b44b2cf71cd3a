/- THE ENGINE, 28: what lies beside the heap: loops' records, marks of deferred calls. -/
import Derived.Test.YtifoekadjnlhcaaGreatDoorEJ
noncomputable section
namespace Go.Proofs.YtifoekadjnlhcaaGreatDoor
open Go.RowKit
set_option linter.unusedVariables false
set_option linter.unusedSimpArgs false
namespace Ev
section
variable {P : Program} {fn : Tab} {φ φ' : Phi} {H H' : Heap} {w w' : World}
/-- What is known beforehand holds. -/
structure TabOk (P : Program) (fn : Tab) : Prop where
  fns : ∀ f F, fn.fn f = some F → P.funcs[f]? = some F
  sms : ∀ f args H v H', fn.sm f args H = some (v, H') → (∀ φ w, Rel φ H w → Gives P φ H w f args v H') ∧ ∃ F, P.funcs[f]? = some F ∧ (F.name == "runtime.NumGoroutine") = false ∧ F.body.isSome = true
theorem lt_of_get {w : World} {b : Nat} {o : Obj} (h : w.heap[b]? = some o) : b < w.heap.size := (Array.getElem?_eq_some_iff.1 h).1
/-- The record of a loop that is under way. -/
def recordOf (h : Hd) (fn : FuncId) (tmps : Array Value) (dfr : Nat) : Loop := { state := .ready, pending := none, fn, tmps, params := h.ps.toArray, assign := h.assign, body := h.body, defers := dfr }
def RecAt (φ : Phi) (H : Heap) (w : World) (k : Nat) (h : Hd) : Prop :=
  ∃ B fn tmps dfr, φ.at_ k = some B ∧ ¬ Own φ H B.blk ∧ w.heap[B.blk]? = some (.loop (recordOf h fn tmps dfr)) ∧ tmps.size = h.nt ∧ ∀ t, conc φ ((h.T.get t).getD undef) = some (tmps.getD t undef)
def Live (φ : Phi) (H : Heap) (w : World) : Hds → Prop
  | [] => True
  | (k, h) :: G => RecAt φ H w k h ∧ (∃ B, φ.at_ k = some B ∧ ∀ x ∈ G, ∃ C, φ.at_ x.1 = some C ∧ C.blk ≠ B.blk) ∧ Live φ H w G
theorem RecAt.step {k : Nat} {h : Hd} (r : RecAt φ H w k h) (s : Step φ H w φ' H' w') : RecAt φ' H' w' k h := by
  obtain ⟨B, fn, tmps, dfr, h1, h2, h3, h4, h5⟩ := r
  have hb := lt_of_get h3
  exact ⟨B, fn, tmps, dfr, s.le.1 _ _ h1, fun ho => h2 (s.own _ hb ho), by rw [s.keep _ hb h2]; exact h3, h4, fun t => conc_le s.le _ _ (h5 t)⟩
theorem Live.step : ∀ {G : Hds}, Live φ H w G → Step φ H w φ' H' w' → Live φ' H' w' G
  | [], _, _ => trivial
  | (k, h) :: G, l, s => by
    obtain ⟨l1, ⟨B, hB, l2⟩, l3⟩ := l
    refine ⟨l1.step s, ⟨B, s.le.1 _ _ hB, fun x hx => ?_⟩, Live.step l3 s⟩
    obtain ⟨C, hC, hne⟩ := l2 x hx
    exact ⟨C, s.le.1 _ _ hC, hne⟩
theorem Live.mem : ∀ {G : Hds}, Live φ H w G → ∀ x ∈ G, RecAt φ H w x.1 x.2 := by
  intro G
  induction G with
  | nil => intro _ x hx; cases hx
  | cons y G ih =>
    intro l x hx
    rcases List.mem_cons.1 hx with hx | hx
    · rw [hx]; exact l.1
    · exact ih l.2.2 x hx
theorem Live.other {l : Nat} {o : Obj} : ∀ {G : Hds}, Live φ H w G → (∀ x ∈ G, ∃ C, φ.at_ x.1 = some C ∧ C.blk ≠ l) → Live φ H (w.putObj l o) G
  | [], _, _ => trivial
  | (k, h) :: G, lv, hne => by
    obtain ⟨⟨B, fn, tmps, dfr, h1, h2, h3, h4, h5⟩, l2, l3⟩ := lv
    refine ⟨⟨B, fn, tmps, dfr, h1, h2, ?_, h4, h5⟩, l2, Live.other l3 fun x hx => hne x (List.mem_cons_of_mem _ hx)⟩
    obtain ⟨C, hC, hn⟩ := hne (k, h) (List.mem_cons_self ..)
    have : C = B := Option.some.inj (hC.symm.trans h1)
    subst this
    rw [World.putObj_heap_other hn]; exact h3
/-- The round that is under way has its record. -/
def RoundAt (φ : Phi) (H : Heap) (w : World) (rd : Option Nat) : Prop := ∀ l, rd = some l → ¬ Own φ H l ∧ ∃ r, w.heap[l]? = some (.loop r)
theorem RoundAt.step {rd : Option Nat} (r : RoundAt φ H w rd) (s : Step φ H w φ' H' w') : RoundAt φ' H' w' rd := fun l hl => by
  obtain ⟨h1, x, h2⟩ := r l hl
  have hb := lt_of_get h2
  exact ⟨fun ho => h1 (s.own _ hb ho), x, by rw [s.keep _ hb h1]; exact h2⟩
/-- The frame's deferred calls are marks, whose blocks are empty. -/
def Marks (n0 : Nat) (φ : Phi) (H : Heap) (w : World) : List Deferred → Prop
  | [] => True
  | d :: D => (∃ r, d = { target := .collected r, args := #[] } ∧ n0 ≤ r ∧ ¬ Own φ H r ∧ w.heap[r]? = some (.deferred (some [])) ∧ ∀ x ∈ D, x ≠ d) ∧ Marks n0 φ H w D
theorem Marks.step {n0 : Nat} : ∀ {D : List Deferred}, Marks n0 φ H w D → Step φ H w φ' H' w' → Marks n0 φ' H' w' D
  | [], _, _ => trivial
  | d :: D, m, s => by
    obtain ⟨⟨r, h1, h2, h3, h4, h5⟩, m⟩ := m
    have hb := lt_of_get h4
    exact ⟨⟨r, h1, h2, fun ho => h3 (s.own _ hb ho), by rw [s.keep _ hb h3]; exact h4, h5⟩, Marks.step m s⟩
theorem Marks.lt {n0 : Nat} : ∀ {D : List Deferred}, Marks n0 φ H w D → ∀ d ∈ D, ∃ r, d = { target := .collected r, args := #[] } ∧ r < w.heap.size
  | d :: D, m, x, hx => by
    rcases List.mem_cons.1 hx with rfl | hx
    · obtain ⟨⟨r, h1, _, _, h4, _⟩, _⟩ := m
      exact ⟨r, h1, lt_of_get h4⟩
    · exact Marks.lt m.2 x hx
theorem Marks.other {n0 l : Nat} {o : Obj} : ∀ {D : List Deferred}, Marks n0 φ H w D → (∀ x ∈ D, x ≠ { target := .collected l, args := #[] }) → Marks n0 φ H (w.putObj l o) D
  | [], _, _ => trivial
  | d :: D, m, hne => by
    obtain ⟨⟨r, h1, h2, h3, h4, h5⟩, m⟩ := m
    refine ⟨⟨r, h1, h2, h3, ?_, h5⟩, Marks.other m fun x hx => hne x (List.mem_cons_of_mem _ hx)⟩
    rw [World.putObj_heap_other (fun e => hne d (List.mem_cons_self ..) (by rw [h1, e]))]; exact h4
theorem Marks.loop {n0 l : Nat} {o : Obj} {r : Loop} (hl : w.heap[l]? = some (.loop r)) : ∀ {D : List Deferred}, Marks n0 φ H w D → Marks n0 φ H (w.putObj l o) D
  | [], _ => trivial
  | d :: D, m => by
    obtain ⟨⟨r', h1, h2, h3, h4, h5⟩, m⟩ := m
    refine ⟨⟨r', h1, h2, h3, ?_, h5⟩, Marks.loop hl m⟩
    rw [World.putObj_heap_other (fun e => by subst e; rw [hl] at h4; cases h4)]; exact h4
/-- What running code achieves. -/
def ExecOk (P : Program) (ex : ExecF) : Prop :=
  ∀ G nt code T H e T' H', ex G nt code T H = some (e, T', H') → ∀ rd n0 D φ a w, Rel φ H w → FRel D φ nt T a → Live φ H w G → RoundAt φ H w rd → Marks n0 φ H w D → n0 ≤ w.heap.size →
    ∀ Q : Exit → Act → World → Prop, (∀ D' φ' a' w', Rel φ' H' w' → FRel D' φ' nt T' a' → Marks n0 φ' H' w' D' → Step φ H w φ' H' w' → Q e.to a' w') → code.wpIn (wideR rd) 0 P Q a w

/-! ### A round -/
theorem putArgs_ok {nt : Nat} {D : List Deferred} : ∀ (ps : List Tmp) (vs A : List Value) (T T' : Tr Value) (a : Act), putArgs nt ps vs T = some T' → concL φ vs = some A → FRel D φ nt T a →
    ps.length = A.length ∧ FRel D φ nt T' { a with tmps := (ps.zip A).foldl (fun tmps x => tmps.setIfInBounds x.1 x.2) a.tmps }
  | [], [], A, T, T', a, h, hA, hF => by
    cases h; simp only [concL, Option.some.injEq] at hA; subst hA
    exact ⟨rfl, hF⟩
  | [], _ :: _, _, _, _, _, h, _, _ => by simp [putArgs] at h
  | _ :: _, [], _, _, _, _, h, _, _ => by simp [putArgs] at h
  | p :: ps, v :: vs, A, T, T', a, h, hA, hF => by
    unfold putArgs at h
    split at h
    · next T1 h1 =>
      simp only [concL] at hA
      split at hA
      · next x y k1 k2 =>
        cases hA
        have hF1 := hF.put h1 k1
        obtain ⟨g1, g2⟩ := putArgs_ok ps vs y T1 T' _ h k2 hF1
        refine ⟨by simp [g1], ?_⟩
        simpa [Act.put] using g2
      · cases hA
    · cases h
theorem yield_ok {ex : ExecF} (he : ExecOk P ex) : ∀ (G : Hds) (id : Nat) (args : List Value) (H : Heap) (v : Value) (H' : Heap), yieldS ex G id args H = some (v, H') → ∀ φ w, Rel φ H w → Live φ H w G → Yields P φ H w id args v H'
  | [], _, _, _, _, _, h, _, _, _, _ => by simp [yieldS] at h
  | (k, hd) :: G, id, args, H, v, H', h, φ, w, hR, hL => by
    unfold yieldS at h
    split at h
    · next hk =>
      subst hk
      split at h
      · cases h
      · next T1 hT1 =>
        split at h
        · next T2 H2 h2 =>
          split at h
          · next T3 H3 h3 =>
            cases h
            intro A hA
            obtain ⟨⟨B, f, tmps, dfr, hB, hown, hblk, hsz, hval⟩, ⟨B', hB', hdis⟩, hLG⟩ := hL
            have : B' = B := Option.some.inj (hB'.symm.trans hB)
            subst this
            have hF0 : FRel [] φ hd.nt hd.T { tmps := tmps, defers := [] } := ⟨hsz, hval, rfl⟩
            obtain ⟨g1, g2⟩ := putArgs_ok hd.ps args A hd.T T1 _ hT1 hA hF0
            refine ⟨B', f, _, hd.assign, hd.body, hB, run_yield hblk (by simp [recordOf, g1]), ?_⟩
            have hlt := lt_of_get hblk
            refine roundIn_of_wpIn (F := Fence.wide) trivial ?_
            have e1 : Array.foldl (fun tmps x => match x with | (t, a) => tmps.setIfInBounds t a) tmps ((recordOf hd f tmps dfr).params.zip A.toArray) = (hd.ps.zip A).foldl (fun tmps x => tmps.setIfInBounds x.1 x.2) tmps := by
              simp [recordOf]
            rw [show (recordOf hd f tmps dfr).tmps = tmps from rfl, e1]
            have hRd : RoundAt φ H w (some B'.blk) := fun l hl => by cases hl; exact ⟨hown, _, hblk⟩
            refine he _ _ _ _ _ _ _ _ h2 (some B'.blk) w.heap.size [] φ _ w hR g2 hLG hRd trivial (Nat.le_refl _) _ fun D1 φ1 a1 w1 hR1 hF1 hM1 hS1 => ?_
            have hblk1 : w1.heap[B'.blk]? = some (.loop (recordOf hd f tmps dfr)) := by rw [hS1.keep _ hlt hown]; exact hblk
            have hown1 : ¬ Own φ1 H2 B'.blk := fun ho => hown (hS1.own _ hlt ho)
            refine ⟨_, run_beginRound hblk1 rfl, ?_⟩
            have hdis1 : ∀ x ∈ G, ∃ C, φ1.at_ x.1 = some C ∧ C.blk ≠ B'.blk := fun x hx => by obtain ⟨C, c1, c2⟩ := hdis x hx; exact ⟨C, hS1.le.1 _ _ c1, c2⟩
            have hlt1 := lt_of_get hblk1
            refine he _ _ _ _ _ _ _ _ h3 (some B'.blk) w.heap.size D1 φ1 a1 _ (hR1.other hown1) hF1 ((hLG.step hS1).other hdis1) (fun l hl => by cases hl; exact ⟨hown1, _, World.putObj_heap_same hlt1⟩) (hM1.loop hblk1) (by rw [World.putObj_size]; exact hS1.size) _ fun D2 φ2 a2 w2 hR2 hF2 hM2 hS2 => ?_
            have hlt1' : B'.blk < (w1.putObj B'.blk (.loop { recordOf hd f tmps dfr with state := .busy })).heap.size := by rw [World.putObj_size]; exact hlt1
            have hblk2 : w2.heap[B'.blk]? = some (.loop { recordOf hd f tmps dfr with state := .busy }) := by rw [hS2.keep _ hlt1' hown1]; exact World.putObj_heap_same hlt1
            have hown2 : ¬ Own φ2 H' B'.blk := fun ho => hown1 (hS2.own _ hlt1' ho)
            refine ⟨_, _, run_endRound none hblk2, _, φ2, rfl, rfl, hR2.other hown2, ?_⟩
            have hlt2 := lt_of_get hblk2
            refine ⟨Phi.le_trans hS1.le hS2.le, fun i C hC => ?_, ?_, fun b hb hn => ?_, fun b hb ho => ?_, Nat.le_trans hS1.next hS2.next, hS2.tape.trans hS1.tape, hS2.os.trans hS1.os, hS2.output.trans hS1.output⟩
            · rcases hS2.new i C hC with h | h
              · exact hS1.new i C h
              · exact .inr (Nat.le_trans hS1.next h)
            · rw [World.putObj_size]
              have := hS2.size; rw [World.putObj_size] at this
              exact Nat.le_trans hS1.size this
            · by_cases hbl : b = B'.blk
              · subst hbl
                rw [World.putObj_heap_same hlt2, hblk]
                rfl
              · rw [World.putObj_heap_other hbl]
                have hb1 := Nat.lt_of_lt_of_le hb hS1.size
                rw [hS2.keep b (by rw [World.putObj_size]; exact hb1) (fun ho => hn (hS1.own b hb ho)), World.putObj_heap_other hbl, hS1.keep b hb hn]
            · exact hS1.own b hb (hS2.own b (by rw [World.putObj_size]; exact Nat.lt_of_lt_of_le hb hS1.size) ho)
          · cases h
        · cases h
    · exact yield_ok he G id args H v H' h φ w hR hL.2.2
end
end Ev
end Go.Proofs.YtifoekadjnlhcaaGreatDoor
