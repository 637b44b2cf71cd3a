/- THE ENGINE: console.Parse known beforehand, at the lines of the closed case. -/
import Derived.Test.YtifoekadjnlhcaaGreatDoorMY
import Derived.Test.YtifoekadjnlhcaaGreatDoorMW
namespace Go.Proofs.YtifoekadjnlhcaaGreatDoor
open Go.ChangeShapes Go.WideShapes Go.ChangeAt Go.RowKit
set_option linter.unusedVariables false
set_option linter.unusedSimpArgs false
set_option maxRecDepth 100000
noncomputable section
namespace Ev
def eqU : List UInt8 → List UInt8 → Bool
  | [], [] => true
  | a :: l, b :: m => match Nat.beq a.toNat b.toNat with
    | true => eqU l m
    | false => false
  | _, _ => false
theorem eqU_eq : ∀ {l m : List UInt8}, eqU l m = true → l = m
  | [], [], _ => rfl
  | a :: l, b :: m, h => by
    unfold eqU at h
    split at h
    · next e => rw [UInt8.toNat_inj.1 (Nat.eq_of_beq_eq_true e), eqU_eq h]
    · cases h
  | [], _ :: _, h => by simp [eqU] at h
  | _ :: _, [], h => by simp [eqU] at h
def ln0 : List UInt8 := [99, 114, 101, 97, 116, 101, 32, 116, 32, 49, 32, 48]
def ln1 : List UInt8 := [112, 114, 111, 100, 117, 99, 101, 32, 116, 32, 48, 32, 49, 32, 48, 32, 48, 32, 48, 32, 53, 32, 107, 61, 118, 32, 120]
def ln2 : List UInt8 := [102, 101, 116, 99, 104, 32, 116, 32, 48, 32, 48, 32, 57]
def ln3 : List UInt8 := [98, 97, 100]
def ln4 : List UInt8 := [119, 111, 114, 107, 32, 51]
def st0 : Stp := ⟨0, ⟨0, [116], 0, 1, false, false, 0, 0, 0, [], [], 0, ⟨0, 0, 0, 0, 0, []⟩⟩, 0, false, []⟩
def st1 : Stp := ⟨0, ⟨3, [116], 0, 0, false, true, 0, 0, 0, [], [], 0, ⟨0, 2, 0, 0, 0, [⟨0, 5, true, [107], false, [118]⟩, ⟨1, 5, false, [], false, [120]⟩]⟩⟩, 0, false, []⟩
def st2 : Stp := ⟨0, ⟨4, [116], 0, 0, false, false, 0, 9, 0, [], [], 0, ⟨0, 0, 0, 0, 0, []⟩⟩, 0, false, []⟩
def st4 : Stp := ⟨2, reqBlank 0, 3, false, []⟩
theorem pz0 : parseW ln0 = some st0 := by decide +kernel
theorem pz1 : parseW ln1 = some st1 := by decide +kernel
theorem pz2 : parseW ln2 = some st2 := by decide +kernel
theorem pz3 : parseW ln3 = none := by decide +kernel
theorem pz4 : parseW ln4 = some st4 := by decide +kernel
def rtP (s : Stp) : Value := .tuple ⟨[.agg (stp s none 0 none 0), .int .i64 0]⟩
def rnP : Value := .tuple ⟨[.agg (stp (stpBlank 0) none 0 none 0), .int .i64 60]⟩
def rpP (id : Nat) : Value := .tuple ⟨[.agg (stp st1 (some ⟨id, 0, none⟩) (BIG + 2) none 0), .int .i64 0]⟩
def recs1 : List Value := [.int .i64 0, .int .i64 5, .bool true, .string (str [107]), .bool false, .string (str [118]), .int .i64 1, .int .i64 5, .bool false, .string (str []), .bool false, .string (str [120])]
def addP (H : Heap) : Option (Value × Heap) := match H.add (.cells (recs1.map some) (some 6) none) with
  | some H' => some (rpP H.next, H')
  | none => none
def psD (l : List UInt8) (H : Heap) : Option (Value × Heap) :=
  match eqU l ln0 with
  | true => some (rtP st0, H)
  | false => match eqU l ln1 with
    | true => addP H
    | false => match eqU l ln2 with
      | true => some (rtP st2, H)
      | false => match eqU l ln3 with
        | true => some (rnP, H)
        | false => match eqU l ln4 with
          | true => some (rtP st4, H)
          | false => none
def psA (args : List Value) (H : Heap) : Option (Value × Heap) := match args with
  | [.string ⟨⟨l⟩⟩] => psD l H
  | _ => none
theorem psD_some {l : List UInt8} {H H' : Heap} {v : Value} (h : psD l H = some (v, H')) : (∃ s, parseW l = some s ∧ s.kind ≠ 4 ∧ s.q.batch.recs = [] ∧ plainV (.agg (stp s none 0 none 0)) = true ∧ v = rtP s ∧ H' = H) ∨ (parseW l = none ∧ v = rnP ∧ H' = H) ∨ (parseW l = some st1 ∧ addP H = some (v, H')) := by
  unfold psD at h
  split at h
  · next e => cases h; rw [eqU_eq e]; exact .inl ⟨_, pz0, by decide, rfl, by decide +kernel, rfl, rfl⟩
  · split at h
    · next e => rw [eqU_eq e]; exact .inr (.inr ⟨pz1, h⟩)
    · split at h
      · next e => cases h; rw [eqU_eq e]; exact .inl ⟨_, pz2, by decide, rfl, by decide +kernel, rfl, rfl⟩
      · split at h
        · next e => cases h; rw [eqU_eq e]; exact .inr (.inl ⟨pz3, rfl, rfl⟩)
        · split at h
          · next e => cases h; rw [eqU_eq e]; exact .inl ⟨_, pz4, by decide, rfl, by decide +kernel, rfl, rfl⟩
          · cases h
theorem conc_rt {φ : Phi} {s : Stp} {k : Int} (h : plainV (.agg (stp s none 0 none 0)) = true) : conc φ (.tuple ⟨[.agg (stp s none 0 none 0), .int .i64 k]⟩) = some (.tuple #[.agg (stp s none 0 none 0), .int .i64 k]) := by
  have h2 : concL φ (stp s none 0 none 0).toList = some (stp s none 0 none 0).toList := concL_plain h
  simp [conc, concL, h2]
theorem psA_some {args : List Value} {H H' : Heap} {v : Value} (h : psA args H = some (v, H')) : ∃ l, args = [.string (str l)] ∧ l.length < 4294967281 ∧ psD l H = some (v, H') := by
  unfold psA at h
  split at h
  · next l =>
    refine ⟨l, rfl, ?_, h⟩
    unfold psD at h
    split at h
    · next e => rw [eqU_eq e]; decide
    · split at h
      · next e => rw [eqU_eq e]; decide
      · split at h
        · next e => rw [eqU_eq e]; decide
        · split at h
          · next e => rw [eqU_eq e]; decide
          · split at h
            · next e => rw [eqU_eq e]; decide
            · cases h
  · cases h
section
variable {φ : Phi} {H H' : Heap} {w w' : World}
theorem adopt (hR : Rel φ H w) (hm : More w w') {o : AObj} (ha : H.add o = some H') {b e : Nat} {c : Obj} (hb : w'.heap[b]? = some c) (hge : w.heap.size ≤ b) (hc : objIs (φ.put H.next ⟨b, 0, e⟩) o ⟨b, 0, e⟩ c) :
    Rel (φ.put H.next ⟨b, 0, e⟩) H' w' ∧ Step φ H w (φ.put H.next ⟨b, 0, e⟩) H' w' := by
  have hn : φ.at_ H.next = none := by
    cases hb : φ.at_ H.next with
    | none => rfl
    | some b => exact absurd (hR.dom _ _ hb).1 (Nat.lt_irrefl _)
  have hle := Phi.le_put (B := ⟨b, 0, e⟩) hn
  have hR' := hR.more hm
  have hS := Step.more (φ := φ) (H := H) hm
  have hget : ∀ m, H'.get m = if m = H.next then some o else H.get m := Heap.add_get ha
  have hnx := Heap.add_next ha
  refine ⟨⟨fun m p C ho hC => ?_, fun m C hC => ?_, fun i j p q C D hi hj bi bj he => ?_⟩, ⟨hle, fun id C hC => ?_, hS.size, fun k hk hn2 => hS.keep k hk hn2, fun k hk ho => ?_, by omega, hS.tape, hS.os, hS.output⟩⟩
  · by_cases e1 : m = H.next
    · subst e1
      rw [Phi.put_at] at hC; cases hC
      rw [hget, if_pos rfl] at ho; cases ho
      exact ⟨c, hb, hc⟩
    · rw [Phi.put_ne e1] at hC
      rw [hget, if_neg e1] at ho
      obtain ⟨c, k4, k5⟩ := hR'.objs m p C ho hC
      exact ⟨c, k4, objIs_le hle k5⟩
  · by_cases e1 : m = H.next
    · subst e1; rw [Phi.put_at] at hC; cases hC; exact ⟨by omega, lt_of_get hb⟩
    · rw [Phi.put_ne e1] at hC
      have := hR'.dom m C hC
      exact ⟨by omega, this.2⟩
  · by_cases a1 : i = H.next
    · by_cases a2 : j = H.next
      · exact .inl (a1.trans a2.symm)
      · subst a1
        rw [Phi.put_at] at bi; cases bi
        rw [Phi.put_ne a2] at bj
        have := (hR.dom j D bj).2
        simp only at he; omega
    · rw [Phi.put_ne a1] at bi
      by_cases a2 : j = H.next
      · subst a2
        rw [Phi.put_at] at bj; cases bj
        have := (hR.dom i C bi).2
        simp only at he; omega
      · rw [Phi.put_ne a2] at bj
        rw [hget, if_neg a1] at hi
        rw [hget, if_neg a2] at hj
        exact hR.alias i j p q C D hi hj bi bj he
  · by_cases e1 : id = H.next
    · exact .inr (by omega)
    · rw [Phi.put_ne e1] at hC; exact .inl hC
  · obtain ⟨id, p, C, k1, k2, k3⟩ := ho
    by_cases e1 : id = H.next
    · subst e1
      rw [Phi.put_at] at k2; cases k2
      simp only at k3; omega
    · rw [Phi.put_ne e1] at k2
      rw [hget, if_neg e1] at k1
      exact ⟨id, p, C, k1, k2, k3⟩
theorem recs1_plain : recs1.all plainS = true := by decide +kernel
theorem ps_ok (hR : Rel φ H w) {l : List UInt8} {v : Value} (hl : l.length < 4294967281) (h : psD l H = some (v, H')) : Gives Tryz.prog φ H w 7 [.string (str l)] v H' := by
  intro A hA
  simp only [concL, conc, Option.some.injEq] at hA
  subst hA
  refine (parse_any l w hl).mono fun e w' hs => ?_
  have hs2 := hs.out
  rcases psD_some h with ⟨s, hp, hk, hr, hpl, rfl, rfl⟩ | ⟨hp, rfl, rfl⟩ | ⟨hp, ha⟩
  · rw [hp] at hs2
    obtain ⟨a, cap, f, fc, rfl, hm, _, hrn, h4⟩ := hs2
    obtain ⟨rfl, rfl⟩ := hrn.nil hr
    obtain ⟨rfl, rfl⟩ := h4 hk
    exact ⟨_, φ, rfl, conc_rt hpl, hR.more hm, Step.more hm⟩
  · rw [hp] at hs2
    obtain ⟨rfl, hm⟩ := hs2
    exact ⟨_, φ, rfl, conc_rt (by decide +kernel), hR.more hm, Step.more hm⟩
  · rw [hp] at hs2
    obtain ⟨a, cap, f, fc, rfl, hm, _, hrn, h4⟩ := hs2
    obtain ⟨rfl, rfl⟩ := h4 (by decide)
    obtain ⟨b, cs, el, rfl, hge, hb, hn, hmx, hcs, htk⟩ := hrn.out (by simp [st1])
    have hn2 : 2 ≤ cap := hn
    unfold addP at ha
    split at ha
    · next H1 hadd =>
      cases ha
      have hrel := adopt (e := cap - 2) hR hm hadd hb hge ⟨cs, el, (0, 0), rfl, .inl (Nat.le_refl _), by show 0 + 12 + (cap - 2) * 6 ≤ cs.size; omega, fun i u hi => by
        have hf : st1.q.batch.recs.flatMap recCells = recs1 := rfl
        rw [hf] at htk
        rw [List.getElem?_map] at hi
        cases hu : recs1[i]? with
        | none => rw [hu] at hi; cases hi
        | some y =>
          rw [hu] at hi; cases hi
          have hlt : i < 12 := (List.getElem?_eq_some_iff.1 hu).1
          refine ⟨u, ?_, ?_⟩
          · rw [← htk, List.getElem?_take, if_pos (by exact hlt)] at hu
            rw [Nat.zero_add]
            simpa using hu
          · obtain ⟨y, g1, g2⟩ := concL_get (concL_plain (φ := φ.put H.next ⟨b, 0, cap - 2⟩) recs1_plain) i u hu
            rw [hu] at g1; cases g1
            exact g2⟩
      refine ⟨_, _, rfl, ?_, hrel.1, hrel.2⟩
      have hat : (φ.put H.next ⟨b, 0, cap - 2⟩).at_ H.next = some ⟨b, 0, cap - 2⟩ := Phi.put_at _ _ _
      have hcap : (if BIG + 2 < BIG then BIG + 2 else 2 + (cap - 2)) = cap := by
        rw [if_neg (by omega)]; omega
      simp [rpP, stp, stpCells, reqCells, st1, conc, concL, concA, hat, hcap]
    · cases ha
end
def fnC : Tab := tabW fnB 7 psA
theorem fnC_ok : TabOk Tryz.prog fnC := by
  refine tabW_ok fnB_ok ?_ ⟨Tryz.f7, Tryz.func7, by kernel_rfl, by kernel_rfl⟩
  intro args H v H' h φ w hR
  obtain ⟨l, rfl, hl, h1⟩ := psA_some h
  exact ps_ok hR hl h1
end Ev
end
end Go.Proofs.YtifoekadjnlhcaaGreatDoor
namespace Go.Proofs.YtifoekadjnlhcaaGreatDoor
set_option linter.unusedVariables false
set_option maxRecDepth 100000
namespace Ev
def isOk (o : Option (Value × Heap)) (v : Value) : Bool := match o with | some (u, _) => beqV u v | none => false
theorem of_isOk {o : Option (Value × Heap)} {v : Value} (h : isOk o v = true) : ∃ H, o = some (v, H) := by
  unfold isOk at h
  split at h
  · next u H => exact ⟨H, by rw [beqV_eq u v h]⟩
  · cases h
theorem follows : Tryz.prog.follows .mixedOrders = true := by kernel_rfl
end Ev
end Go.Proofs.YtifoekadjnlhcaaGreatDoor
