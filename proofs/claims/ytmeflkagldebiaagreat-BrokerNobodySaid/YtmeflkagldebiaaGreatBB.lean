/- BrokerNobody behind Few: the frame and the heap that the engine runs on from. -/
import Derived.Test.YtmeflkagldebiaaGreatBA
namespace Go.Proofs.YtmeflkagldebiaaGreat
set_option linter.unusedVariables false
set_option maxRecDepth 100000
namespace Ev
noncomputable def fnA : Tab := withSm fnP 5 (.bool true)
theorem fnA_ok : TabOk Tryz.prog fnA := by
  obtain ⟨H, h⟩ := of_isOk awake_run
  exact TabOk.withSm follows fnP_ok 3000 h rfl
/-- The body behind its first two parts. -/
def rest2 : Code → Code
  | .seq _ (.seq _ r) => r
  | c => c
noncomputable def rest24 : Code := match Tryz.f3.body with | some c => rest2 c | none => .ret
def qT : List Value := [.float .f64 48, .float .f64 56, .float .f64 64, .float .f64 72, .float .f64 80, .float .f64 88, .float .f64 96, .float .f64 104, .float .f64 112, .float .f64 120, .float .f64 128, .float .f64 136, .float .f64 144, .float .f64 152, .float .f64 160, .float .f64 168, .float .f64 176, .float .f64 184]
def aT : List Value := [.int .u8 0, .float .f64 48, .float .f64 56, .float .f64 64, .float .f64 72, .float .f64 80, .float .f64 88, .float .f64 96, .float .f64 104, .float .f64 112, .float .f64 120, .float .f64 128, .float .f64 136, .float .f64 144, .float .f64 152, .float .f64 160, .float .f64 168, .float .f64 176, .float .f64 184, .int .i64 0]
def cT (s r : Value) : List Value := [.float .f64 0, .float .f64 8, .float .f64 16, .float .f64 24, s, r]
def slots (s r : Value) : List Value := [.agg ⟨cT s r⟩, .agg ⟨qT⟩, .pointer (some ⟨0, 0, none⟩), .pointer (some ⟨1, 0, none⟩), .bool false, undef, undef, undef, undef, undef, undef, undef, undef, undef, undef, undef, undef, undef, undef, undef, undef, undef, undef, undef, .agg ⟨qT⟩, .agg ⟨aT⟩, .float .f64 248, .int .i64 0, .bool false]
noncomputable def heap2 (s r : Value) : Option Heap := match Heap.empty.add (.cells ((cT s r).map some) none none) with | some H1 => H1.add (.cells (qT.map some) none none) | none => none
noncomputable def runB (s r : Value) : Bool := match initT 0 (slots s r) .nil, heap2 s r with
  | some T, some H => match exec Tryz.prog fnA 3000 [] Tryz.f3.ntmps rest24 T H with
    | some (.ret, T', H') => match resultsV Tryz.prog T' H' Tryz.f3.results.toList with
      | some l => beqV (packV l) (.bool true)
      | none => false
    | _ => false
  | _, _ => false
theorem runB_spec {s r : Value} (h : runB s r = true) : ∃ T H1 H T' H' l, initT 0 (slots s r) .nil = some T ∧ Heap.empty.add (.cells ((cT s r).map some) none none) = some H1 ∧ H1.add (.cells (qT.map some) none none) = some H ∧
    exec Tryz.prog fnA 3000 [] Tryz.f3.ntmps rest24 T H = some (.ret, T', H') ∧ resultsV Tryz.prog T' H' Tryz.f3.results.toList = some l ∧ packV l = .bool true := by
  unfold runB at h
  split at h
  · next T H hT hH =>
    split at h
    · next T' H' hx =>
      split at h
      · next l hl =>
        unfold heap2 at hH
        split at hH
        · next H1 h1 => exact ⟨T, H1, H, T', H', l, hT, h1, hH, hx, hl, beqV_eq _ _ h⟩
        · cases hH
      · cases h
    · cases h
  · cases h
end Ev
end Go.Proofs.YtmeflkagldebiaaGreat
