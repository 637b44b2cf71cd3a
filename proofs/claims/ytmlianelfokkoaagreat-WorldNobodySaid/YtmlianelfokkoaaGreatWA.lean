/- THE ENGINE: maps.Clone known beforehand: a new block with the old entries. -/
import Derived.Test.YtmlianelfokkoaaGreatEN
import Derived.Shelf.SlMaps.Clone
namespace Go.Proofs.YtmlianelfokkoaaGreat
open Go.ChangeShapes Go.WideShapes Go.ChangeAt Go.RowKit
set_option linter.unusedVariables false
set_option maxRecDepth 100000
theorem clone_any (b : Nat) (es : Array MapEntry) (clock : Nat) (w : World) (hb : w.heap[b]? = some (.map es clock)) :
    Calls Tryz.prog 38 #[.map (some b)] w fun e w' => e = .returned (.map (some w.heap.size)) ∧ w' = w.alloc (.map es clock) := by
  have hq := fun w => run_eql_map_nil_sl (P := Tryz.prog) w 74 _ _ (some b) Tryz.underlying74
  go_enter Tryz.func38, Tryz.ntmps38
  go_wp2
  rw [run_callFunc_extern Tryz.func62 (by kernel_rfl) (by kernel_rfl) (by kernel_rfl) (e := Extern.MapsClone.clone) (by kernel_rfl), run_maps_clone_sl w 74 hb]
  simp only [Result.andThen]
  rw [Oper.upon_value]
  go_wp2
  rw [run_typeAssert_map_sl _ 74 _ _ _ _ Tryz.underlying74]
  simp only [Result.andThen]
  rw [Oper.upon_value]
  go_wp2
  go_ret
  exact ⟨rfl, rfl⟩
noncomputable section
namespace Ev
def clD (H : Heap) (x : Value) : Option (Value × Heap) := match x with
  | .map (some r) => match H.get r with
    | some (.map es clock) => match H.add (.map es clock) with
      | some H' => some (.map (some H.next), H')
      | none => none
    | _ => none
  | _ => none
def clA (args : List Value) (H : Heap) : Option (Value × Heap) := match args with
  | [x] => clD H x
  | _ => none
theorem clA_some {args : List Value} {H H' : Heap} {v : Value} (h : clA args H = some (v, H')) : ∃ r es clock, args = [.map (some r)] ∧ H.get r = some (.map es clock) ∧ H.add (.map es clock) = some H' ∧ v = .map (some H.next) := by
  unfold clA at h
  split at h
  · unfold clD at h
    split at h
    · split at h
      · next hg =>
        split at h
        · next ha => cases h; exact ⟨_, _, _, rfl, hg, ha, rfl⟩
        · cases h
      · cases h
    · cases h
  · cases h
def tabCl (T : Tab) : Tab := ⟨T.fn, fun f args H => @Bool.rec (fun _ => Option (Value × Heap)) (T.sm f args H) (clA args H) (Nat.beq f 38)⟩
theorem tabCl_ok {T : Tab} (hT : TabOk Tryz.prog T) : TabOk Tryz.prog (tabCl T) := by
  refine ⟨hT.fns, fun f args H v H' h => ?_⟩
  have h : (@Bool.rec (fun _ => Option (Value × Heap)) (T.sm f args H) (clA args H) (Nat.beq f 38)) = some (v, H') := h
  cases hb : Nat.beq f 38 with
  | false => rw [hb] at h; exact hT.sms f args H v H' h
  | true =>
    rw [hb] at h
    have h2 : clA args H = some (v, H') := h
    obtain rfl := Nat.eq_of_beq_eq_true hb
    obtain ⟨r, es, clock, rfl, hg, ha, rfl⟩ := clA_some h2
    refine ⟨fun φ w hR A hA => ?_, Tryz.f38, Tryz.func38, by kernel_rfl, by kernel_rfl⟩
    cases hB : φ.at_ r with
    | none => simp [concL, conc, hB] at hA
    | some B =>
      simp [concL, conc, hB] at hA
      subst hA
      obtain ⟨c, hc, ho⟩ := hR.objs r _ B hg hB
      obtain ⟨en, rfl, hs, hv⟩ := ho
      obtain ⟨φ', h1, h3, h4⟩ := new_block (o := .map es clock) (c := .map en clock) (e := 0) (n := w.drawn) hR ha ⟨en, rfl, hs, hv⟩
      refine (clone_any B.blk en clock w hc).mono fun e w' ⟨he, hw⟩ => ?_
      subst hw
      exact ⟨_, φ', he, by simp [conc, h1], h3, h4⟩
end Ev
end
end Go.Proofs.YtmlianelfokkoaaGreat
/- Law 26's closed case, run by the engine in the kernel. -/
namespace Go.Proofs.YtmlianelfokkoaaGreat
set_option linter.unusedVariables false
set_option maxRecDepth 100000
namespace Ev
noncomputable def fnP : Tab := tabCl ⟨fnT, smK smSum⟩
theorem fnP_ok : TabOk Tryz.prog fnP := tabCl_ok (sum_tab fnT_ok)
def isOk (o : Option (Value × Heap)) (v : Value) : Bool := match o with | some (u, _) => beqV u v | none => false
theorem of_isOk {o : Option (Value × Heap)} {v : Value} (h : isOk o v = true) : ∃ H, o = some (v, H) := by
  unfold isOk at h
  split at h
  · next u H => exact ⟨H, by rw [beqV_eq u v h]⟩
  · cases h
theorem follows : Tryz.prog.follows .mixedOrders = true := by kernel_rfl
theorem awake_run : isOk (callS Tryz.prog fnP (exec Tryz.prog fnP 3000) [] 12 [] Heap.empty) (.bool true) = true := by kernel_rfl
end Ev
end Go.Proofs.YtmlianelfokkoaaGreat
