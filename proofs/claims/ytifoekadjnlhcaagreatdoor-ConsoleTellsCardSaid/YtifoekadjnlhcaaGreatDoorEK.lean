/- THE ENGINE, 28: what lies beside the heap: loops' records, marks of deferred calls. -/
import Derived.Test.YtifoekadjnlhcaaGreatDoorEI
import Derived.LoopNIn
noncomputable section
namespace Go.Proofs.YtifoekadjnlhcaaGreatDoor
open Go.RowKit
set_option linter.unusedVariables false
set_option linter.unusedSimpArgs false
namespace Ev
section
variable {P : Program} {fn : Tab} {φ φ' : Phi} {H H' : Heap} {w w' : World}
structure TabOk (P : Program) (fn : Tab) : Prop where
  fns : ∀ f F, fn.fn f = some F → P.funcs[f]? = some F
  sms : ∀ f args H v H', fn.sm f args H = some (v, H') → (∀ φ w, Rel φ H w → Gives P φ H w f args v H') ∧ ∃ F, P.funcs[f]? = some F ∧ (F.name == "runtime.NumGoroutine") = false ∧ F.body.isSome = true
theorem lt_of_get {w : World} {b : Nat} {o : Obj} (h : w.heap[b]? = some o) : b < w.heap.size := (Array.getElem?_eq_some_iff.1 h).1
def recordOf (h : Hd) (fn : FuncId) (tmps : Array Value) (dfr : Nat) : Loop := { state := .ready, pending := none, fn, tmps, params := h.ps.toArray, assign := h.assign, body := h.body, defers := dfr }
def RecAt (φ : Phi) (H : Heap) (w : World) (k : Nat) (h : Hd) : Prop :=
  ∃ B fn tmps dfr, φ.at_ k = some B ∧ ¬ Own φ H B.blk ∧ w.heap[B.blk]? = some (.loop (recordOf h fn tmps dfr)) ∧ tmps.size = h.nt ∧ ∀ t, conc φ ((h.T.get t).getD undef) = some (tmps.getD t undef)
def Live (φ : Phi) (H : Heap) (w : World) : Hds → Prop
  | [] => True
  | (k, h) :: G => RecAt φ H w k h ∧ (∃ B, φ.at_ k = some B ∧ ∀ x ∈ G, ∃ C, φ.at_ x.1 = some C ∧ C.blk ≠ B.blk) ∧ Live φ H w G
theorem RecAt.step {k : Nat} {h : Hd} (r : RecAt φ H w k h) (s : Step φ H w φ' H' w') : RecAt φ' H' w' k h := by
  obtain ⟨B, fn, tmps, dfr, h1, h2, h3, h4, h5⟩ := r
  have hb := lt_of_get h3
  exact ⟨B, fn, tmps, dfr, s.le.1 _ _ h1, fun ho => h2 (s.own _ hb ho), by rw [s.keep _ hb h2]; exact h3, h4, fun t => conc_le s.le _ _ (h5 t)⟩
theorem Live.step : ∀ {G : Hds}, Live φ H w G → Step φ H w φ' H' w' → Live φ' H' w' G
  | [], _, _ => trivial
  | (k, h) :: G, l, s => by
    obtain ⟨l1, ⟨B, hB, l2⟩, l3⟩ := l
    refine ⟨l1.step s, ⟨B, s.le.1 _ _ hB, fun x hx => ?_⟩, Live.step l3 s⟩
    obtain ⟨C, hC, hne⟩ := l2 x hx
    exact ⟨C, s.le.1 _ _ hC, hne⟩
theorem Live.mem : ∀ {G : Hds}, Live φ H w G → ∀ x ∈ G, RecAt φ H w x.1 x.2 := by
  intro G
  induction G with
  | nil => intro _ x hx; cases hx
  | cons y G ih =>
    intro l x hx
    rcases List.mem_cons.1 hx with hx | hx
    · rw [hx]; exact l.1
    · exact ih l.2.2 x hx
theorem Live.other {l : Nat} {o : Obj} : ∀ {G : Hds}, Live φ H w G → (∀ x ∈ G, ∃ C, φ.at_ x.1 = some C ∧ C.blk ≠ l) → Live φ H (w.putObj l o) G
  | [], _, _ => trivial
  | (k, h) :: G, lv, hne => by
    obtain ⟨⟨B, fn, tmps, dfr, h1, h2, h3, h4, h5⟩, l2, l3⟩ := lv
    refine ⟨⟨B, fn, tmps, dfr, h1, h2, ?_, h4, h5⟩, l2, Live.other l3 fun x hx => hne x (List.mem_cons_of_mem _ hx)⟩
    obtain ⟨C, hC, hn⟩ := hne (k, h) (List.mem_cons_self ..)
    have : C = B := Option.some.inj (hC.symm.trans h1)
    subst this
    rw [World.putObj_heap_other hn]; exact h3
def RoundAt (φ : Phi) (H : Heap) (w : World) (rd : Option Nat) : Prop := ∀ l, rd = some l → ¬ Own φ H l ∧ ∃ r, w.heap[l]? = some (.loop r)
theorem RoundAt.step {rd : Option Nat} (r : RoundAt φ H w rd) (s : Step φ H w φ' H' w') : RoundAt φ' H' w' rd := fun l hl => by
  obtain ⟨h1, x, h2⟩ := r l hl
  have hb := lt_of_get h2
  exact ⟨fun ho => h1 (s.own _ hb ho), x, by rw [s.keep _ hb h1]; exact h2⟩
def Marks (n0 : Nat) (φ : Phi) (H : Heap) (w : World) : List Deferred → Prop
  | [] => True
  | d :: D => (∃ r, d = { target := .collected r, args := #[] } ∧ n0 ≤ r ∧ ¬ Own φ H r ∧ w.heap[r]? = some (.deferred (some [])) ∧ ∀ x ∈ D, x ≠ d) ∧ Marks n0 φ H w D
theorem Marks.step {n0 : Nat} : ∀ {D : List Deferred}, Marks n0 φ H w D → Step φ H w φ' H' w' → Marks n0 φ' H' w' D
  | [], _, _ => trivial
  | d :: D, m, s => by
    obtain ⟨⟨r, h1, h2, h3, h4, h5⟩, m⟩ := m
    have hb := lt_of_get h4
    exact ⟨⟨r, h1, h2, fun ho => h3 (s.own _ hb ho), by rw [s.keep _ hb h3]; exact h4, h5⟩, Marks.step m s⟩
theorem Marks.lt {n0 : Nat} : ∀ {D : List Deferred}, Marks n0 φ H w D → ∀ d ∈ D, ∃ r, d = { target := .collected r, args := #[] } ∧ r < w.heap.size
  | d :: D, m, x, hx => by
    rcases List.mem_cons.1 hx with rfl | hx
    · obtain ⟨⟨r, h1, _, _, h4, _⟩, _⟩ := m
      exact ⟨r, h1, lt_of_get h4⟩
    · exact Marks.lt m.2 x hx
theorem Marks.other {n0 l : Nat} {o : Obj} : ∀ {D : List Deferred}, Marks n0 φ H w D → (∀ x ∈ D, x ≠ { target := .collected l, args := #[] }) → Marks n0 φ H (w.putObj l o) D
  | [], _, _ => trivial
  | d :: D, m, hne => by
    obtain ⟨⟨r, h1, h2, h3, h4, h5⟩, m⟩ := m
    refine ⟨⟨r, h1, h2, h3, ?_, h5⟩, Marks.other m fun x hx => hne x (List.mem_cons_of_mem _ hx)⟩
    rw [World.putObj_heap_other (fun e => hne d (List.mem_cons_self ..) (by rw [h1, e]))]; exact h4
theorem Marks.loop {n0 l : Nat} {o : Obj} {r : Loop} (hl : w.heap[l]? = some (.loop r)) : ∀ {D : List Deferred}, Marks n0 φ H w D → Marks n0 φ H (w.putObj l o) D
  | [], _ => trivial
  | d :: D, m => by
    obtain ⟨⟨r', h1, h2, h3, h4, h5⟩, m⟩ := m
    refine ⟨⟨r', h1, h2, h3, ?_, h5⟩, Marks.loop hl m⟩
    rw [World.putObj_heap_other (fun e => by subst e; rw [hl] at h4; cases h4)]; exact h4
def ExecOk (P : Program) (ex : ExecF) : Prop :=
  ∀ G nt code T H e T' H', ex G nt code T H = some (e, T', H') → ∀ rd n0 D φ a w, Rel φ H w → FRel D φ nt T a → Live φ H w G → RoundAt φ H w rd → Marks n0 φ H w D → n0 ≤ w.heap.size →
    ∀ Q : Exit → Act → World → Prop, (∀ D' φ' a' w', Rel φ' H' w' → FRel D' φ' nt T' a' → Marks n0 φ' H' w' D' → Step φ H w φ' H' w' → Q e.to a' w') → code.wpIn (wideR rd) 0 P Q a w
theorem putArgs_ok {nt : Nat} {D : List Deferred} : ∀ (ps : List Tmp) (vs A : List Value) (T T' : Tr Value) (a : Act), putArgs nt ps vs T = some T' → concL φ vs = some A → FRel D φ nt T a →
    ps.length = A.length ∧ FRel D φ nt T' { a with tmps := (ps.zip A).foldl (fun tmps x => tmps.setIfInBounds x.1 x.2) a.tmps }
  | [], [], A, T, T', a, h, hA, hF => by
    cases h; simp only [concL, Option.some.injEq] at hA; subst hA
    exact ⟨rfl, hF⟩
  | [], _ :: _, _, _, _, _, h, _, _ => by simp [putArgs] at h
  | _ :: _, [], _, _, _, _, h, _, _ => by simp [putArgs] at h
  | p :: ps, v :: vs, A, T, T', a, h, hA, hF => by
    unfold putArgs at h
    split at h
    · next T1 h1 =>
      simp only [concL] at hA
      split at hA
      · next x y k1 k2 =>
        cases hA
        have hF1 := hF.put h1 k1
        obtain ⟨g1, g2⟩ := putArgs_ok ps vs y T1 T' _ h k2 hF1
        refine ⟨by simp [g1], ?_⟩
        simpa [Act.put] using g2
      · cases hA
    · cases h
theorem yield_ok {ex : ExecF} (he : ExecOk P ex) : ∀ (G : Hds) (id : Nat) (args : List Value) (H : Heap) (v : Value) (H' : Heap), yieldS ex G id args H = some (v, H') → ∀ φ w, Rel φ H w → Live φ H w G → Yields P φ H w id args v H'
  | [], _, _, _, _, _, h, _, _, _, _ => by simp [yieldS] at h
  | (k, hd) :: G, id, args, H, v, H', h, φ, w, hR, hL => by
    unfold yieldS at h
    split at h
    · next hk =>
      subst hk
      split at h
      · cases h
      · next T1 hT1 =>
        split at h
        · next T2 H2 h2 =>
          split at h
          · next T3 H3 h3 =>
            cases h
            intro A hA
            obtain ⟨⟨B, f, tmps, dfr, hB, hown, hblk, hsz, hval⟩, ⟨B', hB', hdis⟩, hLG⟩ := hL
            have : B' = B := Option.some.inj (hB'.symm.trans hB)
            subst this
            have hF0 : FRel [] φ hd.nt hd.T { tmps := tmps, defers := [] } := ⟨hsz, hval, rfl⟩
            obtain ⟨g1, g2⟩ := putArgs_ok hd.ps args A hd.T T1 _ hT1 hA hF0
            refine ⟨B', f, _, hd.assign, hd.body, hB, run_yield hblk (by simp [recordOf, g1]), ?_⟩
            have hlt := lt_of_get hblk
            refine roundIn_of_wpIn (F := Fence.wide) trivial ?_
            have e1 : Array.foldl (fun tmps x => match x with | (t, a) => tmps.setIfInBounds t a) tmps ((recordOf hd f tmps dfr).params.zip A.toArray) = (hd.ps.zip A).foldl (fun tmps x => tmps.setIfInBounds x.1 x.2) tmps := by
              simp [recordOf]
            rw [show (recordOf hd f tmps dfr).tmps = tmps from rfl, e1]
            have hRd : RoundAt φ H w (some B'.blk) := fun l hl => by cases hl; exact ⟨hown, _, hblk⟩
            refine he _ _ _ _ _ _ _ _ h2 (some B'.blk) w.heap.size [] φ _ w hR g2 hLG hRd trivial (Nat.le_refl _) _ fun D1 φ1 a1 w1 hR1 hF1 hM1 hS1 => ?_
            have hblk1 : w1.heap[B'.blk]? = some (.loop (recordOf hd f tmps dfr)) := by rw [hS1.keep _ hlt hown]; exact hblk
            have hown1 : ¬ Own φ1 H2 B'.blk := fun ho => hown (hS1.own _ hlt ho)
            refine ⟨_, run_beginRound hblk1 rfl, ?_⟩
            have hdis1 : ∀ x ∈ G, ∃ C, φ1.at_ x.1 = some C ∧ C.blk ≠ B'.blk := fun x hx => by obtain ⟨C, c1, c2⟩ := hdis x hx; exact ⟨C, hS1.le.1 _ _ c1, c2⟩
            have hlt1 := lt_of_get hblk1
            refine he _ _ _ _ _ _ _ _ h3 (some B'.blk) w.heap.size D1 φ1 a1 _ (hR1.other hown1) hF1 ((hLG.step hS1).other hdis1) (fun l hl => by cases hl; exact ⟨hown1, _, World.putObj_heap_same hlt1⟩) (hM1.loop hblk1) (by rw [World.putObj_size]; exact hS1.size) _ fun D2 φ2 a2 w2 hR2 hF2 hM2 hS2 => ?_
            have hlt1' : B'.blk < (w1.putObj B'.blk (.loop { recordOf hd f tmps dfr with state := .busy })).heap.size := by rw [World.putObj_size]; exact hlt1
            have hblk2 : w2.heap[B'.blk]? = some (.loop { recordOf hd f tmps dfr with state := .busy }) := by rw [hS2.keep _ hlt1' hown1]; exact World.putObj_heap_same hlt1
            have hown2 : ¬ Own φ2 H' B'.blk := fun ho => hown1 (hS2.own _ hlt1' ho)
            refine ⟨_, _, run_endRound none hblk2, _, φ2, rfl, rfl, hR2.other hown2, ?_⟩
            have hlt2 := lt_of_get hblk2
            refine ⟨Phi.le_trans hS1.le hS2.le, fun i C hC => ?_, ?_, fun b hb hn => ?_, fun b hb ho => ?_, Nat.le_trans hS1.next hS2.next, hS2.tape.trans hS1.tape, hS2.os.trans hS1.os, hS2.output.trans hS1.output⟩
            · rcases hS2.new i C hC with h | h
              · exact hS1.new i C h
              · exact .inr (Nat.le_trans hS1.next h)
            · rw [World.putObj_size]
              have := hS2.size; rw [World.putObj_size] at this
              exact Nat.le_trans hS1.size this
            · by_cases hbl : b = B'.blk
              · subst hbl
                rw [World.putObj_heap_same hlt2, hblk]
                rfl
              · rw [World.putObj_heap_other hbl]
                have hb1 := Nat.lt_of_lt_of_le hb hS1.size
                rw [hS2.keep b (by rw [World.putObj_size]; exact hb1) (fun ho => hn (hS1.own b hb ho)), World.putObj_heap_other hbl, hS1.keep b hb hn]
            · exact hS1.own b hb (hS2.own b (by rw [World.putObj_size]; exact Nat.lt_of_lt_of_le hb hS1.size) ho)
          · cases h
        · cases h
    · exact yield_ok he G id args H v H' h φ w hR hL.2.2
end
end Ev
end Go.Proofs.YtifoekadjnlhcaaGreatDoor
noncomputable section
namespace Go.Proofs.YtifoekadjnlhcaaGreatDoor
open Go.RowKit
set_option linter.unusedVariables false
set_option linter.unusedSimpArgs false
namespace Ev
section
variable {P : Program} {fn : Tab}
theorem alloc_get (w : World) (o : Obj) (k : Nat) : (w.alloc o).heap[k]? = if k = w.heap.size then some o else w.heap[k]? := by
  show (w.heap.push o)[k]? = _
  rw [Array.getElem?_push]
theorem leaves_ok {φ φ' : Phi} {H H' : Heap} {w : World} {nt : Nat} {T : Tr Value} {F : Func} {l : List Value} {A : Act} (hr : resultsV P T H' F.results.toList = some l) :
    ∀ (D : List Deferred) (w' : World), Marks w.heap.size φ' H' w' D → (∃ D', FRel D' φ' nt T A) → Rel φ' H' w' → Step φ H w φ' H' w' →
      LeavesInM Fence.wide 0 P F A.tmps (fun e w' => ∃ V φ', e = .returned V ∧ conc φ' (packV l) = some V ∧ Rel φ' H' w' ∧ Step φ H w φ' H' w') D .returning w'
  | [], w', _, ⟨D', hF⟩, hR, hS => by
    obtain ⟨V, g1, g2⟩ := results_ok (P := P) hR hF hr
    exact ⟨V, g2, V, φ', rfl, g1, hR, hS⟩
  | d :: D, w', hM, hF, hR, hS => by
    obtain ⟨⟨r, rfl, h2, h3, h4, h5⟩, hM⟩ := hM
    refine ⟨by simp, .inl ⟨r, _, rfl, run_takeDeferred h4, ?_⟩⟩
    exact leaves_ok hr D _ (hM.other h5) hF (hR.other h3) (hS.other h2)
theorem callB_ok (hfn : TabOk P fn) {ex : ExecF} (he : ExecOk P ex) (G : Hds) (f : FuncId) (args : List Value) (H : Heap) (v : Value) (H' : Heap) (h : callB P fn ex G f args H = some (v, H')) :
    (∀ φ w, Rel φ H w → Live φ H w G → Gives P φ H w f args v H') ∧ ∃ F, P.funcs[f]? = some F ∧ (F.name == "runtime.NumGoroutine") = false ∧ F.body.isSome = true := by
  unfold callB at h
  split at h
  · cases h
  · next F hF =>
    split at h
    · cases h
    · next hnm =>
      split at h
      · cases h
      · next c hc =>
        split at h
        · cases h
        · next hlen =>
          split at h
          · cases h
          · next T hT =>
            have hP := hfn.fns f F hF
            refine ⟨fun φ w hR hL A hA => ?_, F, hP, by simpa using hnm, by rw [hc]; rfl⟩
            have hAl := concL_len hA
            have hfr : FRel [] φ F.ntmps T { tmps := A.toArray ++ Array.replicate (F.ntmps - A.toArray.size) undef, defers := [] } := by
              refine ⟨by simp; omega, fun t => ?_, rfl⟩
              rw [initT_get args 0 _ T hT t]
              simp only [Nat.zero_le, true_and, Nat.zero_add, Nat.sub_zero]
              by_cases ht : t < args.length
              · rw [if_pos ht]
                obtain ⟨y, g1, g2⟩ := concL_get hA t _ (List.getElem?_eq_getElem ht)
                rw [List.getElem?_eq_getElem ht]
                simp only [Option.getD_some, g2]
                congr 1
                simp only [Array.getD_eq_getD_getElem?, Array.getElem?_append, List.size_toArray]
                rw [if_pos (by omega)]
                simp [g1]
              · rw [if_neg ht]
                simp only [Tr.get_nil, Option.getD_none]
                have : (A.toArray ++ Array.replicate (F.ntmps - A.toArray.size) undef).getD t undef = undef := by
                  simp only [Array.getD_eq_getD_getElem?, Array.getElem?_append, List.size_toArray]
                  rw [if_neg (by omega)]
                  by_cases h2 : t - A.length < F.ntmps - A.length <;> simp [h2]
                rw [this]; rfl
            have fin : ∀ (e : Ex), (e = .normal ∨ e = .ret) → ∀ T2 H2, ex G F.ntmps c T H = some (e, T2, H2) → (resultsV P T2 H2 F.results.toList).map (fun l => (packV l, H2)) = some (v, H') →
                Calls P f A.toArray w fun e w' => ∃ V φ', e = .returned V ∧ conc φ' v = some V ∧ Rel φ' H' w' ∧ Step φ H w φ' H' w' := by
              intro e hee T2 H2 hex hres
              cases hr : resultsV P T2 H2 F.results.toList with
              | none => rw [hr] at hres; cases hres
              | some l =>
                rw [hr] at hres; cases hres
                refine callsIn_wide.1 (callsIn_of_wp_marks (F := Fence.wide) (n := 0) hP hc trivial ?_ rfl)
                refine he _ _ _ _ _ _ _ _ hex none w.heap.size [] φ _ w hR hfr hL (fun l hl => by cases hl) trivial (Nat.le_refl _) _ fun D' φ' a' w' hR' hF' hM' hS => ?_
                have := leaves_ok (P := P) (w := w) (H := H) (φ := φ) hr a'.defers w' (by rw [hF'.defers]; exact hM') ⟨_, hF'⟩ hR' hS
                rcases hee with rfl | rfl
                · exact this
                · exact this
            split at h
            · cases h
            · next e T2 H2 hne hex =>
              cases e with
              | normal => exact fin .normal (.inl rfl) T2 H2 hex h
              | ret => exact fin .ret (.inr rfl) T2 H2 hex h
              | exit i => exact (hne i rfl).elim
            · cases h
theorem callS_ok (hfn : TabOk P fn) {ex : ExecF} (he : ExecOk P ex) (G : Hds) (f : FuncId) (args : List Value) (H : Heap) (v : Value) (H' : Heap) (h : callS P fn ex G f args H = some (v, H')) :
    (∀ φ w, Rel φ H w → Live φ H w G → Gives P φ H w f args v H') ∧ ∃ F, P.funcs[f]? = some F ∧ (F.name == "runtime.NumGoroutine") = false ∧ F.body.isSome = true := by
  unfold callS at h
  cases hs : fn.sm f args H with
  | none =>
    rw [hs] at h
    have h : callK P fn ex G f args H = some (v, H') := h
    rw [callK_eq] at h
    exact callB_ok hfn he G f args H v H' h
  | some p =>
    rw [hs] at h
    have h : some p = some (v, H') := h
    cases h
    obtain ⟨h1, h2⟩ := hfn.sms f args H v H' hs
    exact ⟨fun φ w hR _ => h1 φ w hR, h2⟩
theorem caller_ok (hfn : TabOk P fn) {ex : ExecF} (he : ExecOk P ex) {G : Hds} {φ0 : Phi} {H0 : Heap} {w0 : World} (hL : Live φ0 H0 w0 G) : CallOk P (caller P fn ex G) φ0 H0 w0 where
  call := fun f args H v H' h => by
    obtain ⟨h1, h2⟩ := callS_ok hfn he G f args H v H' h
    exact ⟨fun φ w hS hR => h1 φ w hR (hL.step hS), h2⟩
  yield := fun id args H v H' h φ w hS hR => yield_ok he G id args H v H' h φ w hR (hL.step hS)
theorem exec_ok (hm : P.follows .mixedOrders = true) (hfn : TabOk P fn) : ∀ f, ExecOk P (exec P fn f) := by
  intro f
  induction f using Nat.strongRecOn with
  | _ f ih =>
    cases f with
    | zero => intro G nt code T H e T' H' h; simp [exec_zero] at h
    | succ f =>
      have IH := ih f (Nat.lt_succ_self f)
      intro G nt code T H e T' H' h rd n0 D φ a w hR hF hL hB hM hn Q hQ
      rw [exec_succ] at h; unfold execStep at h
      have again : ∀ {D' φ' a' w' T1 H1 e1 T2 H2 code1 f1} {Q' : Exit → Act → World → Prop}, ExecOk P (exec P fn f1) → exec P fn f1 G nt code1 T1 H1 = some (e1, T2, H2) → Rel φ' H1 w' → FRel D' φ' nt T1 a' → Marks n0 φ' H1 w' D' → Step φ H w φ' H1 w' →
          (∀ D'' φ'' a'' w'', Rel φ'' H2 w'' → FRel D'' φ'' nt T2 a'' → Marks n0 φ'' H2 w'' D'' → Step φ' H1 w' φ'' H2 w'' → Q' e1.to a'' w'') → code1.wpIn (wideR rd) 0 P Q' a' w' := by
        intro D' φ' a' w' T1 H1 e1 T2 H2 code1 f1 Q' hI hx hR' hF' hM' hS' hQ'
        exact hI _ _ _ _ _ _ _ _ hx rd n0 D' φ' a' w' hR' hF' (hL.step hS') (hB.step hS') hM' (Nat.le_trans hn hS'.size) Q' hQ'
      cases code with
      | skip => simp only at h; cases h; exact wpIn_skip (hQ D φ a w hR hF hM (Step.refl _ _ _))
      | label l => simp only at h; cases h; exact wpIn_label (hQ D φ a w hR hF hM (Step.refl _ _ _))
      | ret => simp only at h; cases h; exact wpIn_ret (hQ D φ a w hR hF hM (Step.refl _ _ _))
      | exit i => simp only at h; cases h; exact wpIn_exit (hQ D φ a w hR hF hM (Step.refl _ _ _))
      | seq x y =>
        simp only at h
        refine wpIn_seq ?_
        split at h
        · next T1 H1 h1 =>
          refine IH _ _ _ _ _ _ _ _ h1 rd n0 D φ a w hR hF hL hB hM hn _ fun D1 φ1 a1 w1 hR1 hF1 hM1 hS1 => ?_
          exact again IH h hR1 hF1 hM1 hS1 fun D2 φ2 a2 w2 hR2 hF2 hM2 hS2 => hQ D2 φ2 a2 w2 hR2 hF2 hM2 (hS1.trans hS2)
        · next r hr =>
          refine IH _ _ _ _ _ _ _ _ h rd n0 D φ a w hR hF hL hB hM hn _ fun D1 φ1 a1 w1 hR1 hF1 hM1 hS1 => ?_
          have := hQ D1 φ1 a1 w1 hR1 hF1 hM1 hS1
          cases e with
          | normal => exact absurd h (hr _ _)
          | exit i => exact this
          | ret => exact this
      | cond c x y =>
        simp only at h
        split at h
        · next hc =>
          have hv := opV_ok hF _ _ hc
          simp only [conc, Option.some.injEq] at hv
          exact wpIn_cond_true hv.symm (IH _ _ _ _ _ _ _ _ h rd n0 D φ a w hR hF hL hB hM hn _ hQ)
        · next hc =>
          have hv := opV_ok hF _ _ hc
          simp only [conc, Option.some.injEq] at hv
          exact wpIn_cond_false hv.symm (IH _ _ _ _ _ _ _ _ h rd n0 D φ a w hR hF hL hB hM hn _ hQ)
        · cases h
      | block i b =>
        simp only at h
        refine wpIn_block ?_
        split at h
        · next j T1 H1 h1 =>
          refine IH _ _ _ _ _ _ _ _ h1 rd n0 D φ a w hR hF hL hB hM hn _ fun D1 φ1 a1 w1 hR1 hF1 hM1 hS1 => ?_
          show (if j = i then Q .normal a1 w1 else Q (.exit j) a1 w1)
          split at h
          · next hj => cases h; rw [if_pos hj]; exact hQ D1 φ1 a1 w1 hR1 hF1 hM1 hS1
          · next hj => cases h; rw [if_neg hj]; exact hQ D1 φ1 a1 w1 hR1 hF1 hM1 hS1
        · next r hr =>
          refine IH _ _ _ _ _ _ _ _ h rd n0 D φ a w hR hF hL hB hM hn _ fun D1 φ1 a1 w1 hR1 hF1 hM1 hS1 => ?_
          have := hQ D1 φ1 a1 w1 hR1 hF1 hM1 hS1
          cases e with
          | normal => exact this
          | exit j => exact absurd h (hr _ _ _)
          | ret => exact this
      | loop b =>
        simp only at h
        have key : ∀ n, n ≤ f + 1 → ∀ T1 H1 D1 φ1 a1 w1, exec P fn n G nt (.loop b) T1 H1 = some (e, T', H') → Rel φ1 H1 w1 → FRel D1 φ1 nt T1 a1 → Marks n0 φ1 H1 w1 D1 → Step φ H w φ1 H1 w1 → Code.roundsIn (wideR rd) 0 P b Q n a1 w1 := by
          intro n
          induction n with
          | zero => intro _ T1 H1 D1 φ1 a1 w1 h1; simp [exec_zero] at h1
          | succ n ihn =>
            intro hnf T1 H1 D1 φ1 a1 w1 h1 hR1 hF1 hM1 hS1
            rw [exec_succ] at h1; unfold execStep at h1
            simp only at h1
            have IHn := ih n (by omega)
            rw [roundsIn_succ]
            split at h1
            · next T2 H2 h2 =>
              refine again IHn h2 hR1 hF1 hM1 hS1 fun D2 φ2 a2 w2 hR2 hF2 hM2 hS2 => ?_
              exact ihn (by omega) T2 H2 D2 φ2 a2 w2 h1 hR2 hF2 hM2 (hS1.trans hS2)
            · next r hr =>
              refine again IHn h1 hR1 hF1 hM1 hS1 fun D2 φ2 a2 w2 hR2 hF2 hM2 hS2 => ?_
              have := hQ D2 φ2 a2 w2 hR2 hF2 hM2 (hS1.trans hS2)
              cases e with
              | normal => exact absurd h1 (hr _ _)
              | exit j => exact this
              | ret => exact this
        refine wpIn_loop_rounds (f + 1) (key (f + 1) (Nat.le_refl _) T H D φ a w ?_ hR hF hM (Step.refl _ _ _))
        rw [exec_succ]; unfold execStep; exact h
      | region id ops draw =>
        simp only at h
        cases draw with
        | true =>
          rw [if_pos rfl] at h
          split at h
          · next hp =>
            simp only [Bool.and_eq_true] at hp
            split at h
            · next s hs =>
              cases h
              exact plan_wp (rd := rd) hm (planOkF_ok hp.1) hp.2 hs (caller_ok hfn IH (hL.step Step.toDrew)) hR hF fun φ' a' w' r f st => hQ D φ' a' w' r f (hM.step st.drew) st.drew
            · cases h
          · cases h
        | false =>
          rw [if_neg (by simp)] at h
          split at h
          · next T1 H1 h1 =>
            cases h
            refine wpIn_region ?_
            have := runSeq_ok (D := D) (rd := rd) (Q := Q) (caller_ok hfn IH hL) ops.toList 0 φ T H a w (by intro j; simp) (by simp) h1 (Step.refl _ _ _) hR hF fun φ' a' w' r f st => hQ D φ' a' w' r f (hM.step st) st
            rw [List.range_eq_range']
            simpa using this
          · cases h
      | rangeFunc g ps x y =>
        simp only at h
        split at h
        · next fid first captured hg =>
          split at h
          · next H1 hH1 =>
            split at h
            · next v H2 hcall =>
              cases h
              have hv := opV_ok hF _ _ hg
              obtain ⟨f', A, B, hf', hA, hB', hev⟩ := conc_func hv
              cases hf'
              obtain ⟨hgive, F', hF', hnm, hbd⟩ := callS_ok hfn IH _ _ _ _ _ _ hcall
              have main : ∀ (l : Nat) (mark : List Deferred) (w1 : World) (f0 : FuncId) (dfr : Nat), w.heap.size ≤ l → (∀ x ∈ D, x ≠ { target := .collected l, args := #[] }) → Rel φ H w1 → Step φ H w φ H w1 → Marks n0 φ H w1 (mark ++ D) →
                  w1.heap[l]? = some (.loop (recordOf ⟨nt, T, ps.toList, x, y⟩ f0 a.tmps dfr)) →
                  ∃ (d : Deferred) (w₁' : World) (f : FuncId) (args : Array Value) (w₂ : World), (resolve a.eval (rangeCall g l) 0).run P w1 = .ok d w₁' ∧ (invoke d.target d.args).run P w₁' = .ok (.enter f args) w₂ ∧
                    CallsIn (wideR rd) 0 P f args w₂ (rangePost (wideR rd) 0 P l Q { a with defers := mark ++ a.defers }) := by
                intro l mark w1 f0 dfr hl hne hR1 hS1 hM1 hblk
                have hlt := lt_of_get hblk
                have hown : ¬ Own φ H l := hR.unowned hl
                obtain ⟨hR2, hS2, hat, hown2⟩ := hR1.reserve hH1 hlt
                have hL2 : Live (φ.put H.next ⟨l, 0, 0⟩) H1 w1 ((H.next, ⟨nt, T, ps.toList, x, y⟩) :: G) := by
                  refine ⟨⟨⟨l, 0, 0⟩, f0, a.tmps, dfr, hat, fun ho => hown (hown2 _ ho), hblk, hF.size, fun t => conc_le hS2.le _ _ (hF.vals t)⟩, ⟨⟨l, 0, 0⟩, hat, fun z hz => ?_⟩, (hL.step hS1).step hS2⟩
                  obtain ⟨C, fz, tz, dz, c1, _, c3, _⟩ := hL.mem z hz
                  have := lt_of_get c3
                  exact ⟨C, hS2.le.1 _ _ c1, by show C.blk ≠ l; omega⟩
                have hargs : concL (φ.put H.next ⟨l, 0, 0⟩) (first ++ [.float .f32 H.next] ++ captured) = some (A ++ [Value.func (.yield l) #[] #[]] ++ B) := by
                  have app : ∀ (Ψ : Phi) (l m L M : List Value), concL Ψ l = some L → concL Ψ m = some M → concL Ψ (l ++ m) = some (L ++ M) := by
                    intro Ψ l
                    induction l with
                    | nil => intro m L M hl hm; simp [concL] at hl; subst hl; simpa using hm
                    | cons v l ih =>
                      intro m L M hl hm
                      simp only [concL] at hl
                      split at hl
                      · next x y k1 k2 => cases hl; simp only [List.cons_append, concL, k1, ih m y M k2 hm]
                      · cases hl
                  exact app _ _ _ _ _ (app _ _ _ _ _ (concL_le hS2.le _ _ hA) (by simp only [concL, conc, hat, Option.map_some])) (concL_le hS2.le _ _ hB')
                have hC := hgive _ w1 hR2 hL2 _ hargs
                refine ⟨{ target := .fn (.func fid) B.toArray, args := A.toArray ++ #[Value.func (.yield l) #[] #[]] }, w1, fid, (A ++ [Value.func (.yield l) #[] #[]] ++ B).toArray, w1, ?_, ?_, ?_⟩
                · show (Deferred.ofValue (a.eval g) _).run P w1 = _
                  rw [hev, show (rangeCall g l).args.map a.eval = #[Value.func (.yield l) #[] #[]] from by simp [rangeCall, Act.eval]]
                  rfl
                · simp only [invoke]
                  unfold callFunc
                  show (Sem.bind (Sem.program .pure) _).run P w1 = _
                  simp only [Sem.bind, Sem.run, hF', hnm, Bool.false_eq_true, if_false]
                  have : F'.body.isNone = false := by cases hb : F'.body <;> simp [hb] at hbd ⊢
                  rw [if_neg (by simp [this])]
                  show Result.ok (Next.enter fid _) w1 = _
                  congr 2
                  apply Array.toList_inj.1; simp
                · refine callsIn_wideR (hC.mono fun e w3 he => ?_)
                  obtain ⟨V, φ3, rfl, k1, k2, k3⟩ := he
                  have hown1 : ¬ Own (φ.put H.next ⟨l, 0, 0⟩) H1 l := fun ho => hown (hown2 _ ho)
                  have hblk3 : w3.heap[l]? = some (.loop (recordOf ⟨nt, T, ps.toList, x, y⟩ f0 a.tmps dfr)) := by rw [k3.keep _ hlt hown1]; exact hblk
                  have hst : Step φ H w φ3 H' w3 := (hS1.trans hS2).trans k3
                  have hown3 : ¬ Own φ3 H' l := fun ho => hown1 (k3.own _ hlt ho)
                  refine ⟨none, _, run_endLoop hblk3 (by simp [recordOf]), ?_⟩
                  have hM3 := ((hM1.step hS2).step k3).loop (o := .loop { recordOf ⟨nt, T, ps.toList, x, y⟩ f0 a.tmps dfr with state := .exhausted }) hblk3
                  exact hQ (mark ++ D) φ3 _ _ (k2.other hown3) ⟨(hF.le hst.le).size, (hF.le hst.le).vals, by show mark ++ a.defers = _; rw [hF.defers]⟩ hM3 (hst.other hl)
              refine wpIn_rangeFunc fun f0 _ => ?_
              cases rd with
              | none =>
                have hfresh : ∀ (k : Nat), w.heap.size ≤ k → ∀ z ∈ D, z ≠ { target := .collected k, args := #[] } := by
                  intro k hk z hz e
                  obtain ⟨r, h1, h2⟩ := hM.lt z hz
                  rw [h1] at e
                  simp only [Deferred.mk.injEq, Target.collected.injEq, and_true] at e
                  omega
                obtain ⟨d, w1', f1, args, w2, m1, m2, m3⟩ := main (w.heap.size + 1) [{ target := .collected w.heap.size, args := #[] }] ((w.alloc (.deferred (some []))).alloc (.loop (recordOf ⟨nt, T, ps.toList, x, y⟩ f0 a.tmps w.heap.size))) f0 w.heap.size (by omega)
                  (hfresh _ (by omega)) ((hR.alloc _).alloc _) ((Step.alloc _).trans (Step.alloc _))
                  ⟨⟨w.heap.size, rfl, hn, hR.unowned (Nat.le_refl _), by rw [alloc_get, if_neg (by simp), alloc_get, if_pos rfl], hfresh _ (Nat.le_refl _)⟩, hM.step ((Step.alloc _).trans (Step.alloc _))⟩
                  (by rw [alloc_get, if_pos (by simp)])
                refine ⟨_, _, _, d, w1', f1, args, w2, run_enterLoop_outer f0 a.tmps ps x y, ?_, fun _ _ => trivial, m2, fun h => by simp [wideR, Fence.wide] at h, m3⟩
                simpa [recordOf] using m1
              | some l0 =>
                obtain ⟨hown0, r0, hr0⟩ := hB l0 rfl
                have hfresh : ∀ z ∈ D, z ≠ { target := .collected w.heap.size, args := #[] } := by
                  intro z hz e
                  obtain ⟨r, h1, h2⟩ := hM.lt z hz
                  rw [h1] at e
                  simp only [Deferred.mk.injEq, Target.collected.injEq, and_true] at e
                  omega
                obtain ⟨d, w1', f1, args, w2, m1, m2, m3⟩ := main w.heap.size [] (w.alloc (.loop (recordOf ⟨nt, T, ps.toList, x, y⟩ f0 a.tmps r0.defers))) f0 r0.defers (Nat.le_refl _)
                  hfresh (hR.alloc _) (Step.alloc _) (hM.step (Step.alloc _)) (by rw [alloc_get, if_pos (by simp)])
                refine ⟨_, _, _, d, w1', f1, args, w2, run_enterLoop_inner hr0 f0 a.tmps ps x y, ?_, fun _ _ => trivial, m2, fun h => by simp [wideR, Fence.wide] at h, m3⟩
                simpa [recordOf] using m1
            · cases h
          · cases h
        · cases h
      | scope b => simp only at h; cases h
      | goto l => simp only at h; cases h
      | refuse s => simp only at h; cases h
theorem call_ok (hm : P.follows .mixedOrders = true) (hfn : TabOk P fn) (fuel : Nat) {f : FuncId} {args : List Value} {H : Heap} {v : Value} {H' : Heap} (h : callS P fn (exec P fn fuel) [] f args H = some (v, H')) {φ : Phi} {w : World} (hR : Rel φ H w) {A : List Value} (hA : concL φ args = some A) :
    Calls P f A.toArray w fun e w' => ∃ V φ', e = .returned V ∧ conc φ' v = some V ∧ Rel φ' H' w' ∧ Step φ H w φ' H' w' :=
  (callS_ok hfn (exec_ok hm hfn fuel) [] f args H v H' h).1 φ w hR trivial A hA
def Heap.empty : Heap := ⟨0, .nil⟩
theorem Rel.empty (env : Nat → Option Value) (w : World) : Rel ⟨fun _ => none, env⟩ Heap.empty w := ⟨fun id o B h => by simp [Heap.get_eq, Heap.empty, Tr.get_nil] at h, fun id B h => by simp at h, fun i j o p B C h => by simp [Heap.get_eq, Heap.empty, Tr.get_nil] at h⟩
theorem call_more (hm : P.follows .mixedOrders = true) (hfn : TabOk P fn) (fuel : Nat) {f : FuncId} {args : List Value} {v : Value} {H' : Heap} (h : callS P fn (exec P fn fuel) [] f args Heap.empty = some (v, H')) (hv : plainV v = true) (env : Nat → Option Value) {A : List Value} (hA : concL ⟨fun _ => none, env⟩ args = some A) (w : World) :
    Calls P f A.toArray w fun e w' => e = .returned v ∧ More w w' := by
  refine (call_ok hm hfn fuel h (Rel.empty env w) hA).mono fun e w' ⟨V, φ', he, hc, hR, hS⟩ => ?_
  rw [conc_plainV hv] at hc; cases hc
  refine ⟨he, more_of_below ⟨hS.os, hS.tape, hS.output, hS.size, fun b hb => hS.keep b hb ?_⟩⟩
  rintro ⟨id, o, B, h1, _⟩
  simp [Heap.get_eq, Heap.empty, Tr.get_nil] at h1
theorem Rel.more {φ : Phi} {H : Heap} {w w' : World} (h : Rel φ H w) (m : More w w') : Rel φ H w' := by
  obtain ⟨e, n, rfl⟩ := m
  refine ⟨fun id ob B h1 h2 => ?_, fun id B h1 => ?_, h.alias⟩
  · obtain ⟨c, h3, h4⟩ := h.objs id ob B h1 h2
    refine ⟨c, ?_, h4⟩
    show (w.heap ++ e)[B.blk]? = some c
    rw [Array.getElem?_append, if_pos (lt_of_get h3)]; exact h3
  · have := h.dom id B h1
    refine ⟨this.1, ?_⟩
    show B.blk < (w.heap ++ e).size
    rw [Array.size_append]; omega
theorem Step.more {φ : Phi} {H : Heap} {w w' : World} (m : More w w') : Step φ H w φ H w' := by
  obtain ⟨e, n, rfl⟩ := m
  refine ⟨Phi.le_refl φ, fun _ _ h => .inl h, ?_, fun b hb _ => ?_, fun _ _ h => h, Nat.le_refl _, rfl, rfl, rfl⟩
  · show w.heap.size ≤ (w.heap ++ e).size
    rw [Array.size_append]; omega
  · show (w.heap ++ e)[b]? = w.heap[b]?
    rw [Array.getElem?_append, if_pos hb]
def withSm (fn : Tab) (g : Nat) (v : Value) : Tab := ⟨fn.fn, fun f args H => @Bool.rec (fun _ => Option (Value × Heap)) (fn.sm f args H) (@List.rec Value (fun _ => Option (Value × Heap)) (some (v, H)) (fun _ _ _ => none) args) (Nat.beq f g)⟩
theorem tab_smK {g : Nat → Option Func} {s : Nat → List Value → Heap → Option Value} (hf : ∀ f F, g f = some F → P.funcs[f]? = some F)
    (hs : ∀ f args H v, s f args H = some v → (∀ φ w, Rel φ H w → Gives P φ H w f args v H) ∧ ∃ F, P.funcs[f]? = some F ∧ (F.name == "runtime.NumGoroutine") = false ∧ F.body.isSome = true) : TabOk P ⟨g, smK s⟩ := by
  refine ⟨hf, fun f args H v H' h => ?_⟩
  have h : (@Option.rec Value (fun _ => Option (Value × Heap)) none (fun v => some (v, H)) (s f args H)) = some (v, H') := h
  cases hq : s f args H with
  | none => rw [hq] at h; cases h
  | some u =>
    rw [hq] at h
    have h : some (u, H) = some (v, H') := h
    cases h
    exact hs f args H v hq
end
end Ev
end Go.Proofs.YtifoekadjnlhcaaGreatDoor
