/- The statement DumpQuotes, proved: any text is quoted, and any one is the quoted one of another, as the document says. No condition but the card's: the listed tables are laid as the program's text lays them. -/
import Derived.Test.YtejokhgabcldhaaDoorOB
import Derived.Test.YtejokhgabcldhaaDoorNE
import Derived.Test.YtejokhgabcldhaaDoorNG
import Derived.Test.YtejokhgabcldhaaDoorMA
import Derived.Test.YtejokhgabcldhaaDoorTie
import Derived.Test.YtejokhgabcldhaaDoorCards
import Derived.LaidMore
import Derived.Lay
import Derived.SevenTiedAt
import Derived.Stop.Joined
namespace Go.Proofs.YtejokhgabcldhaaDoor
open Go.ChangeShapes Go.WideShapes Go.ChangeAt Go.RowKit
set_option linter.unusedVariables false
set_option linter.unusedSimpArgs false

set_option maxRecDepth 100000 in
set_option maxHeartbeats 1600000 in
theorem quotes_walk (s : List UInt8) (w : World) (hl : s.length ≤ maxLen) : Calls Tryd.prog 3 #[.string (str s)] w fun x w' => x = .returned (.bool true) ∧ More w w' := by
  have hsz := str_size s
  unfold maxLen at hl
  by_cases h3 : 300 < s.length
  · refine calls_wd ?_
    go_enter Tryd.func3, Tryd.ntmps3
    go_wp2_with (first | (go_at_call 7; ((with_reducible refine (awake30 _).mono ?_); rintro e w1 ⟨rfl, x1, n1, rfl⟩)))
    go_ret
    exact ⟨rfl, more_wd _ _ _⟩
  · have HU := Lib.hid (fun W => unquote_any s W (by omega))
    have HV := Lib.hid (fun W => runquote_any s W (by omega))
    have HQ := Lib.hid (fun W => quote_any s W (by omega))
    have HR := Lib.hid (fun W => rquote_any s W (by omega))
    obtain ⟨U, hU⟩ : ∃ U, unquote s = U := ⟨_, rfl⟩
    rw [hU] at HU HV
    obtain ⟨Q, hQ⟩ : ∃ Q, quote s = Q := ⟨_, rfl⟩
    rw [hQ] at HQ HR
    obtain ⟨U1, U2⟩ := U
    clear hU hQ
    refine calls_wd ?_
    go_enter Tryd.func3, Tryd.ntmps3
    go_wp2_with (first
      | (go_at_call 8; ((with_reducible refine (HU.out _).mono ?_); rintro e w1 hq; obtain ⟨rfl, x2, n2, rfl⟩ := hq.out))
      | (go_at_call 9; ((with_reducible refine (HV.out _).mono ?_); rintro e w1 hq; obtain ⟨rfl, x3, n3, rfl⟩ := hq.out))
      | (go_at_call 10; ((with_reducible refine (HQ.out _).mono ?_); rintro e w1 ⟨rfl, x4, n4, rfl⟩))
      | (go_at_call 11; ((with_reducible refine (HR.out _).mono ?_); rintro e w1 ⟨rfl, x5, n5, rfl⟩))
      | (go_at_call 7; ((with_reducible refine (awake30 _).mono ?_); rintro e w1 ⟨rfl, x1, n1, rfl⟩)))
    go_ret
    exact ⟨rfl, more_wd _ _ _⟩
set_option maxRecDepth 100000 in
theorem string_rd {base : Nat} {w : World} (v0 : Value) (k0 : Value.okWide Tryd.prog w .any base 9 v0) (r0 : Rd Tryd.prog w 9 v0.cells.toList) : ∃ s : List UInt8, v0 = .string (str s) ∧ s.length ≤ maxLen := by
  obtain ⟨s, h1, h2⟩ := r0.string Tryd.underlying9
  refine ⟨s.data.toList, ?_, by simpa using h2⟩
  simp only [Value.okWide, Tryd.underlying9, Cell.okWide] at k0
  rw [str_of]
  cases v0 <;> simp_all [Cell.ok, Value.cells]
set_option maxRecDepth 100000 in
theorem quotes_rd {base : Nat} {w : World} (v0 : Value) (k0 : Value.okWide Tryd.prog w .any base 9 v0) (r0 : Rd Tryd.prog w 9 v0.cells.toList) :
    Calls Tryd.prog 3 #[v0] w fun e w' => e = .returned (.bool true) ∧ More w w' := by
  obtain ⟨s, rfl, hl⟩ := string_rd v0 k0 r0
  exact quotes_walk s w hl

set_option maxRecDepth 100000 in
theorem liftedDumpQuotes (os : Os) (started : os.Started) (H : Type) (enc : TypeId × Value → H) :
    ReturnsInHanded {} Tryd.checked os 3 .any (fun w args => (Rows.dumpQuotesSpec.pre enc Tryd.prog Tryd.f3 Rows.dumpQuotesRow.domain false w args ∧ laidMetH Tryd.prog Rows.dumpQuotesRow.laid w) ∧ sizedMet enc Tryd.prog Tryd.f3 (OpenSpec.ofChange Rows.dumpQuotesSpec) false w args) (Rows.dumpQuotesSpec.post enc Tryd.prog Tryd.f3 false true false false) := by
  refine returnsInHanded_of_change_and (C := Tryd.checked) (X := fun w _ => laidMetH Tryd.prog Rows.dumpQuotesRow.laid w) (fun _ _ _ hh h => h.of_heap hh) own started (by kernel_rfl) Tryd.func3
    (ChangeSpec.witness_shaped (enc := enc) (C := Tryd.checked) (os := os) (X := fun w _ => laidMetH Tryd.prog Rows.dumpQuotesRow.laid w) false (World.laidAll Tryd.prog os Rows.dumpQuotesRow.laid) #[.string ⟨#[]⟩] 8 (World.laidAll_os _ _ _)
      (World.shaped_of_ZipB (by kernel_rfl) (by kernel_rfl)) (by kernel_rfl) (by kernel_rfl) (by kernel_rfl)
      (by rw [MakeChecks.laidMetH_plain _ _ _ (by kernel_rfl)]; exact laidMet_laidAll _ (by kernel_rfl) (by kernel_rfl))) ?_
  intro W base args ds gs before hval0 hW hcnd _ _ _
  have hval : ∀ (j : Nat) t v, Tryd.f3.params[j]? = some t → args[j]? = some v → Value.okWide Tryd.prog W .any base t v := hval0
  have hW' := hW
  obtain ⟨p, q, hA0, hV, rfl, hfz, hnd⟩ := hW
  have hA : DataW.TrodAll enc Tryd.prog W 0 (fun _ => true) true Tryd.f3.params.toList args.toList ds p := hA0
  rw [Tryd.params3] at hA hval
  obtain ⟨v0, vs0, d0, ds0, p0, q0, hargs, rfl, rfl, h0, r0⟩ := trodAll_cons hA
  obtain ⟨rfl, rfl, rfl⟩ := trodAll_nil r0
  obtain rfl : args = #[v0] := by cases args; simp_all
  obtain ⟨rfl, rfl⟩ := trodVars_none hV
  have lt0 : ∀ x ∈ p0, x.block < W.heap.size := by obtain ⟨m, hm⟩ := h0; exact DataW.trod_lt m _ _ _ hm
  have rd0 : Rd Tryd.prog W 9 v0.cells.toList := by obtain ⟨m, hm⟩ := h0; exact ⟨H, enc, m, _, hm⟩
  clear hA0 hval0
  refine (quotes_rd v0 (hval 0 9 v0 rfl rfl) rd0).mono fun e W' ⟨he, hmore⟩ => ?_
  subst he
  have bel := hmore.below
  exact ⟨_, rfl, _, _, _, [], _, [], hW', trodAll_mk1 (shut_bool Tryd.underlying4 _), (trodAll_cons_mk (Below.trod laidOut (by kernel_rfl) (of_decide_eq_true (by kernel_rfl)) h0 bel lt0) trodAll_mk0), rfl, bel.frame _, fun h => by cases h⟩

theorem overDumpQuotes : Rows.dumpQuotesRow.holds Tryd.pinned (OpenSpec.ofChange Rows.dumpQuotesSpec) :=
  OpenClaim.holds_of_wide 3 Tryd.f3 rfl rfl rfl rfl rfl rfl rfl ⟨rfl, rfl, rfl, rfl, rfl⟩ rfl rfl rfl rfl rfl (by kernel_rfl) Tryd.func3 (by kernel_rfl)
    (of_decide_eq_true (by kernel_rfl)) (by unfold Func.isWrapper; first | (rw [if_pos (by decide +kernel)]; kernel_rfl) | (rw [if_neg (by decide +kernel)]; exact ⟨rfl, rfl⟩))
    (fun os started H enc _ => liftedDumpQuotes os started H enc)

/-- THE STATEMENT: THE TIED CARD. -/
theorem provedDumpQuotes : Rows.DumpQuotesCardSaid :=
  Claim7.holds_tied_plain_at .later [] [.data, .pinned] true _ false overDumpQuotes (fun _ h => by cases h) (by kernel_rfl) (fun _ h => by cases h) dumpQuotes_row_tie rfl ⟨rfl, rfl⟩ (by kernel_rfl) rfl
    (fun f fn hf hfn => by
      obtain rfl : f = 3 := Option.some.inj ((show Tryd.prog.funcNamed "bilander/bilanderlaw30.DumpQuotes" = some 3 by kernel_rfl).symm.trans hf) |>.symm
      obtain rfl : fn = Tryd.f3 := (Option.some.inj (Tryd.func3.symm.trans hfn)).symm
      exact ⟨by kernel_rfl, fun j t ht => by
        rw [Tryd.params3] at ht
        have hm : t ∈ [9] := by simpa using Array.mem_of_getElem? ht
        have hall : ([9].all fun u => !Tryd.prog.wantsStandIn u) = true := by kernel_rfl
        exact (show Tryd.prog.wantsStandIn t = false by simpa using List.all_eq_true.1 hall t hm)⟩)
    (by kernel_rfl)
#print axioms provedDumpQuotes
end Go.Proofs.YtejokhgabcldhaaDoor
