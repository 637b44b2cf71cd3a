/- dump: Quote. -/
import Derived.Test.YtifoekadjnlhcaaGreatDoorMG
import Derived.Test.YtifoekadjnlhcaaGreatDoorMC
import Derived.Test.YtifoekadjnlhcaaGreatDoorShelf
import Derived.Test.YtifoekadjnlhcaaGreatDoorMI
import Derived.Test.YtifoekadjnlhcaaGreatDoorMJ
import Derived.Test.YtifoekadjnlhcaaGreatDoorME
namespace Go.Proofs.YtifoekadjnlhcaaGreatDoor
open Go.ChangeShapes Go.WideShapes Go.ChangeAt Go.RowKit
set_option linter.unusedVariables false
set_option linter.unusedSimpArgs false
section
variable (w : World) (L : List (Array Obj)) (n : Nat) (m d : Array Obj) (q : Option Addr) (v : Value) (l : List UInt8)
end
end Go.Proofs.YtifoekadjnlhcaaGreatDoor
namespace Go.Proofs.YtifoekadjnlhcaaGreatDoor
open Go.ChangeShapes Go.WideShapes Go.ChangeAt Go.RowKit
set_option linter.unusedVariables false
set_option linter.unusedSimpArgs false
structure TxtRet (w w' : World) (x : Ending) (r : List UInt8 × Bool) : Prop where
  out : x = .returned (.tuple #[.string (str r.1), .bool r.2]) ∧ More w w'
structure RecFit (r : Rec) : Prop where
  d1 : -1 ≤ r.delta
  d2 : r.delta ≤ 4611686018427387910
  t1 : -1 ≤ r.time
  t2 : r.time ≤ 4611686018427387910
  k : r.key.length ≤ 1000000
  v : r.value.length ≤ 1000000
structure NumFit (n : Int) : Prop where
  a : -1 ≤ n
  b : n ≤ 4611686018427387910
structure BatFit (b : Bat) : Prop where
  h1 : NumFit b.base
  h2 : NumFit b.count
  h3 : NumFit b.producer
  h4 : NumFit b.epoch
  h5 : NumFit b.seq
end Go.Proofs.YtifoekadjnlhcaaGreatDoor
namespace Go.Proofs.YtifoekadjnlhcaaGreatDoor
open Go.RowKit
set_option linter.unusedVariables false
set_option linter.unusedSimpArgs false
def textB (l : List Bat) : List UInt8 := l.flatMap fun b => (batLines b).flatMap lineB
theorem splitC_each (c : UInt8) : ∀ (l : List UInt8), ∀ w ∈ splitC c l, w.length ≤ l.length
  | [], w, h => by simp [splitC] at h; subst h; simp
  | x :: r, w, h => by
    have ih := splitC_each c r
    rw [splitC] at h
    split at h
    · rcases List.mem_cons.1 h with rfl | h
      · simp
      · have := ih w h; rw [List.length_cons]; omega
    · cases hs : splitC c r with
      | nil => exact absurd hs (splitC_ne c r)
      | cons v vs =>
        rw [hs] at h ih
        rcases List.mem_cons.1 h with rfl | h
        · have := ih v (by simp); simp; omega
        · have := ih w (by simp [h]); rw [List.length_cons]; omega
theorem splitC_len_le (c : UInt8) : ∀ l : List UInt8, (splitC c l).length ≤ l.length + 1
  | [] => by simp [splitC]
  | x :: r => by
    have ih := splitC_len_le c r
    rw [splitC]
    split
    · simp; exact ih
    · cases hs : splitC c r with
      | nil => exact absurd hs (splitC_ne c r)
      | cons v vs => rw [hs] at ih; simp at ih ⊢; omega
end Go.Proofs.YtifoekadjnlhcaaGreatDoor
