/- THE ENGINE, 0: a table that holds things by number. Each number has its accessor, a closed term that the kernel reduces once. (Printed by gen/trk.py.) -/
import Derived.Test.YtifoekadjnlhcaaGreatDoorMA
noncomputable section
namespace Go.Proofs.YtifoekadjnlhcaaGreatDoor
set_option linter.unusedVariables false
namespace Ev
inductive D8 where | d0 | d1 | d2 | d3 | d4 | d5 | d6 | d7
structure E8 (β : Type) where
  (c0 c1 c2 c3 c4 c5 c6 c7 : β)
section
variable {β : Type}
def E8.all (x : β) : E8 β := ⟨x, x, x, x, x, x, x, x⟩
def sel8 (d : D8) : E8 β → β := @D8.rec (fun _ => E8 β → β) (fun t => t.c0) (fun t => t.c1) (fun t => t.c2) (fun t => t.c3) (fun t => t.c4) (fun t => t.c5) (fun t => t.c6) (fun t => t.c7) d
def put8 (d : D8) : β → E8 β → E8 β := @D8.rec (fun _ => β → E8 β → E8 β) (fun v t => @E8.rec β (fun _ => E8 β) (fun a0 a1 a2 a3 a4 a5 a6 a7 => E8.mk v a1 a2 a3 a4 a5 a6 a7) t) (fun v t => @E8.rec β (fun _ => E8 β) (fun a0 a1 a2 a3 a4 a5 a6 a7 => E8.mk a0 v a2 a3 a4 a5 a6 a7) t) (fun v t => @E8.rec β (fun _ => E8 β) (fun a0 a1 a2 a3 a4 a5 a6 a7 => E8.mk a0 a1 v a3 a4 a5 a6 a7) t) (fun v t => @E8.rec β (fun _ => E8 β) (fun a0 a1 a2 a3 a4 a5 a6 a7 => E8.mk a0 a1 a2 v a4 a5 a6 a7) t) (fun v t => @E8.rec β (fun _ => E8 β) (fun a0 a1 a2 a3 a4 a5 a6 a7 => E8.mk a0 a1 a2 a3 v a5 a6 a7) t) (fun v t => @E8.rec β (fun _ => E8 β) (fun a0 a1 a2 a3 a4 a5 a6 a7 => E8.mk a0 a1 a2 a3 a4 v a6 a7) t) (fun v t => @E8.rec β (fun _ => E8 β) (fun a0 a1 a2 a3 a4 a5 a6 a7 => E8.mk a0 a1 a2 a3 a4 a5 v a7) t) (fun v t => @E8.rec β (fun _ => E8 β) (fun a0 a1 a2 a3 a4 a5 a6 a7 => E8.mk a0 a1 a2 a3 a4 a5 a6 v) t) d
def num8 (d : D8) : Nat := @D8.rec (fun _ => Nat) 0 1 2 3 4 5 6 7 d
def dig8 (n : Nat) : D8 := @Nat.rec (fun _ => D8) .d0 (fun n _ => @Nat.rec (fun _ => D8) .d1 (fun n _ => @Nat.rec (fun _ => D8) .d2 (fun n _ => @Nat.rec (fun _ => D8) .d3 (fun n _ => @Nat.rec (fun _ => D8) .d4 (fun n _ => @Nat.rec (fun _ => D8) .d5 (fun n _ => @Nat.rec (fun _ => D8) .d6 (fun n _ => .d7) n) n) n) n) n) n) n
theorem num_dig (n : Nat) (h : n < 8) : num8 (dig8 n) = n := by
  match n, h with
  | 0, _ => rfl
  | 1, _ => rfl
  | 2, _ => rfl
  | 3, _ => rfl
  | 4, _ => rfl
  | 5, _ => rfl
  | 6, _ => rfl
  | 7, _ => rfl
theorem sel_put_same (i : D8) (v : β) (t : E8 β) : sel8 i (put8 i v t) = v := by cases t; cases i <;> rfl
theorem sel_put_ne (i j : D8) (v : β) (t : E8 β) (h : num8 i ≠ num8 j) : sel8 i (put8 j v t) = sel8 i t := by cases t; cases i <;> cases j <;> first | rfl | exact absurd rfl h
structure Acc2 (β : Type) where
  g : E8 (E8 β) → β
  s : β → E8 (E8 β) → E8 (E8 β)
def acc2 (h l : D8) : Acc2 β := @D8.rec (fun _ => Acc2 β)
  (@D8.rec (fun _ => Acc2 β)
    (Acc2.mk (fun t => t.c0.c0) (fun v t => @E8.rec (E8 β) (fun _ => E8 (E8 β)) (fun a0 a1 a2 a3 a4 a5 a6 a7 => E8.mk (@E8.rec β (fun _ => E8 β) (fun b0 b1 b2 b3 b4 b5 b6 b7 => E8.mk v b1 b2 b3 b4 b5 b6 b7) a0) a1 a2 a3 a4 a5 a6 a7) t))
    (Acc2.mk (fun t => t.c0.c1) (fun v t => @E8.rec (E8 β) (fun _ => E8 (E8 β)) (fun a0 a1 a2 a3 a4 a5 a6 a7 => E8.mk (@E8.rec β (fun _ => E8 β) (fun b0 b1 b2 b3 b4 b5 b6 b7 => E8.mk b0 v b2 b3 b4 b5 b6 b7) a0) a1 a2 a3 a4 a5 a6 a7) t))
    (Acc2.mk (fun t => t.c0.c2) (fun v t => @E8.rec (E8 β) (fun _ => E8 (E8 β)) (fun a0 a1 a2 a3 a4 a5 a6 a7 => E8.mk (@E8.rec β (fun _ => E8 β) (fun b0 b1 b2 b3 b4 b5 b6 b7 => E8.mk b0 b1 v b3 b4 b5 b6 b7) a0) a1 a2 a3 a4 a5 a6 a7) t))
    (Acc2.mk (fun t => t.c0.c3) (fun v t => @E8.rec (E8 β) (fun _ => E8 (E8 β)) (fun a0 a1 a2 a3 a4 a5 a6 a7 => E8.mk (@E8.rec β (fun _ => E8 β) (fun b0 b1 b2 b3 b4 b5 b6 b7 => E8.mk b0 b1 b2 v b4 b5 b6 b7) a0) a1 a2 a3 a4 a5 a6 a7) t))
    (Acc2.mk (fun t => t.c0.c4) (fun v t => @E8.rec (E8 β) (fun _ => E8 (E8 β)) (fun a0 a1 a2 a3 a4 a5 a6 a7 => E8.mk (@E8.rec β (fun _ => E8 β) (fun b0 b1 b2 b3 b4 b5 b6 b7 => E8.mk b0 b1 b2 b3 v b5 b6 b7) a0) a1 a2 a3 a4 a5 a6 a7) t))
    (Acc2.mk (fun t => t.c0.c5) (fun v t => @E8.rec (E8 β) (fun _ => E8 (E8 β)) (fun a0 a1 a2 a3 a4 a5 a6 a7 => E8.mk (@E8.rec β (fun _ => E8 β) (fun b0 b1 b2 b3 b4 b5 b6 b7 => E8.mk b0 b1 b2 b3 b4 v b6 b7) a0) a1 a2 a3 a4 a5 a6 a7) t))
    (Acc2.mk (fun t => t.c0.c6) (fun v t => @E8.rec (E8 β) (fun _ => E8 (E8 β)) (fun a0 a1 a2 a3 a4 a5 a6 a7 => E8.mk (@E8.rec β (fun _ => E8 β) (fun b0 b1 b2 b3 b4 b5 b6 b7 => E8.mk b0 b1 b2 b3 b4 b5 v b7) a0) a1 a2 a3 a4 a5 a6 a7) t))
    (Acc2.mk (fun t => t.c0.c7) (fun v t => @E8.rec (E8 β) (fun _ => E8 (E8 β)) (fun a0 a1 a2 a3 a4 a5 a6 a7 => E8.mk (@E8.rec β (fun _ => E8 β) (fun b0 b1 b2 b3 b4 b5 b6 b7 => E8.mk b0 b1 b2 b3 b4 b5 b6 v) a0) a1 a2 a3 a4 a5 a6 a7) t)) l)
  (@D8.rec (fun _ => Acc2 β)
    (Acc2.mk (fun t => t.c1.c0) (fun v t => @E8.rec (E8 β) (fun _ => E8 (E8 β)) (fun a0 a1 a2 a3 a4 a5 a6 a7 => E8.mk a0 (@E8.rec β (fun _ => E8 β) (fun b0 b1 b2 b3 b4 b5 b6 b7 => E8.mk v b1 b2 b3 b4 b5 b6 b7) a1) a2 a3 a4 a5 a6 a7) t))
    (Acc2.mk (fun t => t.c1.c1) (fun v t => @E8.rec (E8 β) (fun _ => E8 (E8 β)) (fun a0 a1 a2 a3 a4 a5 a6 a7 => E8.mk a0 (@E8.rec β (fun _ => E8 β) (fun b0 b1 b2 b3 b4 b5 b6 b7 => E8.mk b0 v b2 b3 b4 b5 b6 b7) a1) a2 a3 a4 a5 a6 a7) t))
    (Acc2.mk (fun t => t.c1.c2) (fun v t => @E8.rec (E8 β) (fun _ => E8 (E8 β)) (fun a0 a1 a2 a3 a4 a5 a6 a7 => E8.mk a0 (@E8.rec β (fun _ => E8 β) (fun b0 b1 b2 b3 b4 b5 b6 b7 => E8.mk b0 b1 v b3 b4 b5 b6 b7) a1) a2 a3 a4 a5 a6 a7) t))
    (Acc2.mk (fun t => t.c1.c3) (fun v t => @E8.rec (E8 β) (fun _ => E8 (E8 β)) (fun a0 a1 a2 a3 a4 a5 a6 a7 => E8.mk a0 (@E8.rec β (fun _ => E8 β) (fun b0 b1 b2 b3 b4 b5 b6 b7 => E8.mk b0 b1 b2 v b4 b5 b6 b7) a1) a2 a3 a4 a5 a6 a7) t))
    (Acc2.mk (fun t => t.c1.c4) (fun v t => @E8.rec (E8 β) (fun _ => E8 (E8 β)) (fun a0 a1 a2 a3 a4 a5 a6 a7 => E8.mk a0 (@E8.rec β (fun _ => E8 β) (fun b0 b1 b2 b3 b4 b5 b6 b7 => E8.mk b0 b1 b2 b3 v b5 b6 b7) a1) a2 a3 a4 a5 a6 a7) t))
    (Acc2.mk (fun t => t.c1.c5) (fun v t => @E8.rec (E8 β) (fun _ => E8 (E8 β)) (fun a0 a1 a2 a3 a4 a5 a6 a7 => E8.mk a0 (@E8.rec β (fun _ => E8 β) (fun b0 b1 b2 b3 b4 b5 b6 b7 => E8.mk b0 b1 b2 b3 b4 v b6 b7) a1) a2 a3 a4 a5 a6 a7) t))
    (Acc2.mk (fun t => t.c1.c6) (fun v t => @E8.rec (E8 β) (fun _ => E8 (E8 β)) (fun a0 a1 a2 a3 a4 a5 a6 a7 => E8.mk a0 (@E8.rec β (fun _ => E8 β) (fun b0 b1 b2 b3 b4 b5 b6 b7 => E8.mk b0 b1 b2 b3 b4 b5 v b7) a1) a2 a3 a4 a5 a6 a7) t))
    (Acc2.mk (fun t => t.c1.c7) (fun v t => @E8.rec (E8 β) (fun _ => E8 (E8 β)) (fun a0 a1 a2 a3 a4 a5 a6 a7 => E8.mk a0 (@E8.rec β (fun _ => E8 β) (fun b0 b1 b2 b3 b4 b5 b6 b7 => E8.mk b0 b1 b2 b3 b4 b5 b6 v) a1) a2 a3 a4 a5 a6 a7) t)) l)
  (@D8.rec (fun _ => Acc2 β)
    (Acc2.mk (fun t => t.c2.c0) (fun v t => @E8.rec (E8 β) (fun _ => E8 (E8 β)) (fun a0 a1 a2 a3 a4 a5 a6 a7 => E8.mk a0 a1 (@E8.rec β (fun _ => E8 β) (fun b0 b1 b2 b3 b4 b5 b6 b7 => E8.mk v b1 b2 b3 b4 b5 b6 b7) a2) a3 a4 a5 a6 a7) t))
    (Acc2.mk (fun t => t.c2.c1) (fun v t => @E8.rec (E8 β) (fun _ => E8 (E8 β)) (fun a0 a1 a2 a3 a4 a5 a6 a7 => E8.mk a0 a1 (@E8.rec β (fun _ => E8 β) (fun b0 b1 b2 b3 b4 b5 b6 b7 => E8.mk b0 v b2 b3 b4 b5 b6 b7) a2) a3 a4 a5 a6 a7) t))
    (Acc2.mk (fun t => t.c2.c2) (fun v t => @E8.rec (E8 β) (fun _ => E8 (E8 β)) (fun a0 a1 a2 a3 a4 a5 a6 a7 => E8.mk a0 a1 (@E8.rec β (fun _ => E8 β) (fun b0 b1 b2 b3 b4 b5 b6 b7 => E8.mk b0 b1 v b3 b4 b5 b6 b7) a2) a3 a4 a5 a6 a7) t))
    (Acc2.mk (fun t => t.c2.c3) (fun v t => @E8.rec (E8 β) (fun _ => E8 (E8 β)) (fun a0 a1 a2 a3 a4 a5 a6 a7 => E8.mk a0 a1 (@E8.rec β (fun _ => E8 β) (fun b0 b1 b2 b3 b4 b5 b6 b7 => E8.mk b0 b1 b2 v b4 b5 b6 b7) a2) a3 a4 a5 a6 a7) t))
    (Acc2.mk (fun t => t.c2.c4) (fun v t => @E8.rec (E8 β) (fun _ => E8 (E8 β)) (fun a0 a1 a2 a3 a4 a5 a6 a7 => E8.mk a0 a1 (@E8.rec β (fun _ => E8 β) (fun b0 b1 b2 b3 b4 b5 b6 b7 => E8.mk b0 b1 b2 b3 v b5 b6 b7) a2) a3 a4 a5 a6 a7) t))
    (Acc2.mk (fun t => t.c2.c5) (fun v t => @E8.rec (E8 β) (fun _ => E8 (E8 β)) (fun a0 a1 a2 a3 a4 a5 a6 a7 => E8.mk a0 a1 (@E8.rec β (fun _ => E8 β) (fun b0 b1 b2 b3 b4 b5 b6 b7 => E8.mk b0 b1 b2 b3 b4 v b6 b7) a2) a3 a4 a5 a6 a7) t))
    (Acc2.mk (fun t => t.c2.c6) (fun v t => @E8.rec (E8 β) (fun _ => E8 (E8 β)) (fun a0 a1 a2 a3 a4 a5 a6 a7 => E8.mk a0 a1 (@E8.rec β (fun _ => E8 β) (fun b0 b1 b2 b3 b4 b5 b6 b7 => E8.mk b0 b1 b2 b3 b4 b5 v b7) a2) a3 a4 a5 a6 a7) t))
    (Acc2.mk (fun t => t.c2.c7) (fun v t => @E8.rec (E8 β) (fun _ => E8 (E8 β)) (fun a0 a1 a2 a3 a4 a5 a6 a7 => E8.mk a0 a1 (@E8.rec β (fun _ => E8 β) (fun b0 b1 b2 b3 b4 b5 b6 b7 => E8.mk b0 b1 b2 b3 b4 b5 b6 v) a2) a3 a4 a5 a6 a7) t)) l)
  (@D8.rec (fun _ => Acc2 β)
    (Acc2.mk (fun t => t.c3.c0) (fun v t => @E8.rec (E8 β) (fun _ => E8 (E8 β)) (fun a0 a1 a2 a3 a4 a5 a6 a7 => E8.mk a0 a1 a2 (@E8.rec β (fun _ => E8 β) (fun b0 b1 b2 b3 b4 b5 b6 b7 => E8.mk v b1 b2 b3 b4 b5 b6 b7) a3) a4 a5 a6 a7) t))
    (Acc2.mk (fun t => t.c3.c1) (fun v t => @E8.rec (E8 β) (fun _ => E8 (E8 β)) (fun a0 a1 a2 a3 a4 a5 a6 a7 => E8.mk a0 a1 a2 (@E8.rec β (fun _ => E8 β) (fun b0 b1 b2 b3 b4 b5 b6 b7 => E8.mk b0 v b2 b3 b4 b5 b6 b7) a3) a4 a5 a6 a7) t))
    (Acc2.mk (fun t => t.c3.c2) (fun v t => @E8.rec (E8 β) (fun _ => E8 (E8 β)) (fun a0 a1 a2 a3 a4 a5 a6 a7 => E8.mk a0 a1 a2 (@E8.rec β (fun _ => E8 β) (fun b0 b1 b2 b3 b4 b5 b6 b7 => E8.mk b0 b1 v b3 b4 b5 b6 b7) a3) a4 a5 a6 a7) t))
    (Acc2.mk (fun t => t.c3.c3) (fun v t => @E8.rec (E8 β) (fun _ => E8 (E8 β)) (fun a0 a1 a2 a3 a4 a5 a6 a7 => E8.mk a0 a1 a2 (@E8.rec β (fun _ => E8 β) (fun b0 b1 b2 b3 b4 b5 b6 b7 => E8.mk b0 b1 b2 v b4 b5 b6 b7) a3) a4 a5 a6 a7) t))
    (Acc2.mk (fun t => t.c3.c4) (fun v t => @E8.rec (E8 β) (fun _ => E8 (E8 β)) (fun a0 a1 a2 a3 a4 a5 a6 a7 => E8.mk a0 a1 a2 (@E8.rec β (fun _ => E8 β) (fun b0 b1 b2 b3 b4 b5 b6 b7 => E8.mk b0 b1 b2 b3 v b5 b6 b7) a3) a4 a5 a6 a7) t))
    (Acc2.mk (fun t => t.c3.c5) (fun v t => @E8.rec (E8 β) (fun _ => E8 (E8 β)) (fun a0 a1 a2 a3 a4 a5 a6 a7 => E8.mk a0 a1 a2 (@E8.rec β (fun _ => E8 β) (fun b0 b1 b2 b3 b4 b5 b6 b7 => E8.mk b0 b1 b2 b3 b4 v b6 b7) a3) a4 a5 a6 a7) t))
    (Acc2.mk (fun t => t.c3.c6) (fun v t => @E8.rec (E8 β) (fun _ => E8 (E8 β)) (fun a0 a1 a2 a3 a4 a5 a6 a7 => E8.mk a0 a1 a2 (@E8.rec β (fun _ => E8 β) (fun b0 b1 b2 b3 b4 b5 b6 b7 => E8.mk b0 b1 b2 b3 b4 b5 v b7) a3) a4 a5 a6 a7) t))
    (Acc2.mk (fun t => t.c3.c7) (fun v t => @E8.rec (E8 β) (fun _ => E8 (E8 β)) (fun a0 a1 a2 a3 a4 a5 a6 a7 => E8.mk a0 a1 a2 (@E8.rec β (fun _ => E8 β) (fun b0 b1 b2 b3 b4 b5 b6 b7 => E8.mk b0 b1 b2 b3 b4 b5 b6 v) a3) a4 a5 a6 a7) t)) l)
  (@D8.rec (fun _ => Acc2 β)
    (Acc2.mk (fun t => t.c4.c0) (fun v t => @E8.rec (E8 β) (fun _ => E8 (E8 β)) (fun a0 a1 a2 a3 a4 a5 a6 a7 => E8.mk a0 a1 a2 a3 (@E8.rec β (fun _ => E8 β) (fun b0 b1 b2 b3 b4 b5 b6 b7 => E8.mk v b1 b2 b3 b4 b5 b6 b7) a4) a5 a6 a7) t))
    (Acc2.mk (fun t => t.c4.c1) (fun v t => @E8.rec (E8 β) (fun _ => E8 (E8 β)) (fun a0 a1 a2 a3 a4 a5 a6 a7 => E8.mk a0 a1 a2 a3 (@E8.rec β (fun _ => E8 β) (fun b0 b1 b2 b3 b4 b5 b6 b7 => E8.mk b0 v b2 b3 b4 b5 b6 b7) a4) a5 a6 a7) t))
    (Acc2.mk (fun t => t.c4.c2) (fun v t => @E8.rec (E8 β) (fun _ => E8 (E8 β)) (fun a0 a1 a2 a3 a4 a5 a6 a7 => E8.mk a0 a1 a2 a3 (@E8.rec β (fun _ => E8 β) (fun b0 b1 b2 b3 b4 b5 b6 b7 => E8.mk b0 b1 v b3 b4 b5 b6 b7) a4) a5 a6 a7) t))
    (Acc2.mk (fun t => t.c4.c3) (fun v t => @E8.rec (E8 β) (fun _ => E8 (E8 β)) (fun a0 a1 a2 a3 a4 a5 a6 a7 => E8.mk a0 a1 a2 a3 (@E8.rec β (fun _ => E8 β) (fun b0 b1 b2 b3 b4 b5 b6 b7 => E8.mk b0 b1 b2 v b4 b5 b6 b7) a4) a5 a6 a7) t))
    (Acc2.mk (fun t => t.c4.c4) (fun v t => @E8.rec (E8 β) (fun _ => E8 (E8 β)) (fun a0 a1 a2 a3 a4 a5 a6 a7 => E8.mk a0 a1 a2 a3 (@E8.rec β (fun _ => E8 β) (fun b0 b1 b2 b3 b4 b5 b6 b7 => E8.mk b0 b1 b2 b3 v b5 b6 b7) a4) a5 a6 a7) t))
    (Acc2.mk (fun t => t.c4.c5) (fun v t => @E8.rec (E8 β) (fun _ => E8 (E8 β)) (fun a0 a1 a2 a3 a4 a5 a6 a7 => E8.mk a0 a1 a2 a3 (@E8.rec β (fun _ => E8 β) (fun b0 b1 b2 b3 b4 b5 b6 b7 => E8.mk b0 b1 b2 b3 b4 v b6 b7) a4) a5 a6 a7) t))
    (Acc2.mk (fun t => t.c4.c6) (fun v t => @E8.rec (E8 β) (fun _ => E8 (E8 β)) (fun a0 a1 a2 a3 a4 a5 a6 a7 => E8.mk a0 a1 a2 a3 (@E8.rec β (fun _ => E8 β) (fun b0 b1 b2 b3 b4 b5 b6 b7 => E8.mk b0 b1 b2 b3 b4 b5 v b7) a4) a5 a6 a7) t))
    (Acc2.mk (fun t => t.c4.c7) (fun v t => @E8.rec (E8 β) (fun _ => E8 (E8 β)) (fun a0 a1 a2 a3 a4 a5 a6 a7 => E8.mk a0 a1 a2 a3 (@E8.rec β (fun _ => E8 β) (fun b0 b1 b2 b3 b4 b5 b6 b7 => E8.mk b0 b1 b2 b3 b4 b5 b6 v) a4) a5 a6 a7) t)) l)
  (@D8.rec (fun _ => Acc2 β)
    (Acc2.mk (fun t => t.c5.c0) (fun v t => @E8.rec (E8 β) (fun _ => E8 (E8 β)) (fun a0 a1 a2 a3 a4 a5 a6 a7 => E8.mk a0 a1 a2 a3 a4 (@E8.rec β (fun _ => E8 β) (fun b0 b1 b2 b3 b4 b5 b6 b7 => E8.mk v b1 b2 b3 b4 b5 b6 b7) a5) a6 a7) t))
    (Acc2.mk (fun t => t.c5.c1) (fun v t => @E8.rec (E8 β) (fun _ => E8 (E8 β)) (fun a0 a1 a2 a3 a4 a5 a6 a7 => E8.mk a0 a1 a2 a3 a4 (@E8.rec β (fun _ => E8 β) (fun b0 b1 b2 b3 b4 b5 b6 b7 => E8.mk b0 v b2 b3 b4 b5 b6 b7) a5) a6 a7) t))
    (Acc2.mk (fun t => t.c5.c2) (fun v t => @E8.rec (E8 β) (fun _ => E8 (E8 β)) (fun a0 a1 a2 a3 a4 a5 a6 a7 => E8.mk a0 a1 a2 a3 a4 (@E8.rec β (fun _ => E8 β) (fun b0 b1 b2 b3 b4 b5 b6 b7 => E8.mk b0 b1 v b3 b4 b5 b6 b7) a5) a6 a7) t))
    (Acc2.mk (fun t => t.c5.c3) (fun v t => @E8.rec (E8 β) (fun _ => E8 (E8 β)) (fun a0 a1 a2 a3 a4 a5 a6 a7 => E8.mk a0 a1 a2 a3 a4 (@E8.rec β (fun _ => E8 β) (fun b0 b1 b2 b3 b4 b5 b6 b7 => E8.mk b0 b1 b2 v b4 b5 b6 b7) a5) a6 a7) t))
    (Acc2.mk (fun t => t.c5.c4) (fun v t => @E8.rec (E8 β) (fun _ => E8 (E8 β)) (fun a0 a1 a2 a3 a4 a5 a6 a7 => E8.mk a0 a1 a2 a3 a4 (@E8.rec β (fun _ => E8 β) (fun b0 b1 b2 b3 b4 b5 b6 b7 => E8.mk b0 b1 b2 b3 v b5 b6 b7) a5) a6 a7) t))
    (Acc2.mk (fun t => t.c5.c5) (fun v t => @E8.rec (E8 β) (fun _ => E8 (E8 β)) (fun a0 a1 a2 a3 a4 a5 a6 a7 => E8.mk a0 a1 a2 a3 a4 (@E8.rec β (fun _ => E8 β) (fun b0 b1 b2 b3 b4 b5 b6 b7 => E8.mk b0 b1 b2 b3 b4 v b6 b7) a5) a6 a7) t))
    (Acc2.mk (fun t => t.c5.c6) (fun v t => @E8.rec (E8 β) (fun _ => E8 (E8 β)) (fun a0 a1 a2 a3 a4 a5 a6 a7 => E8.mk a0 a1 a2 a3 a4 (@E8.rec β (fun _ => E8 β) (fun b0 b1 b2 b3 b4 b5 b6 b7 => E8.mk b0 b1 b2 b3 b4 b5 v b7) a5) a6 a7) t))
    (Acc2.mk (fun t => t.c5.c7) (fun v t => @E8.rec (E8 β) (fun _ => E8 (E8 β)) (fun a0 a1 a2 a3 a4 a5 a6 a7 => E8.mk a0 a1 a2 a3 a4 (@E8.rec β (fun _ => E8 β) (fun b0 b1 b2 b3 b4 b5 b6 b7 => E8.mk b0 b1 b2 b3 b4 b5 b6 v) a5) a6 a7) t)) l)
  (@D8.rec (fun _ => Acc2 β)
    (Acc2.mk (fun t => t.c6.c0) (fun v t => @E8.rec (E8 β) (fun _ => E8 (E8 β)) (fun a0 a1 a2 a3 a4 a5 a6 a7 => E8.mk a0 a1 a2 a3 a4 a5 (@E8.rec β (fun _ => E8 β) (fun b0 b1 b2 b3 b4 b5 b6 b7 => E8.mk v b1 b2 b3 b4 b5 b6 b7) a6) a7) t))
    (Acc2.mk (fun t => t.c6.c1) (fun v t => @E8.rec (E8 β) (fun _ => E8 (E8 β)) (fun a0 a1 a2 a3 a4 a5 a6 a7 => E8.mk a0 a1 a2 a3 a4 a5 (@E8.rec β (fun _ => E8 β) (fun b0 b1 b2 b3 b4 b5 b6 b7 => E8.mk b0 v b2 b3 b4 b5 b6 b7) a6) a7) t))
    (Acc2.mk (fun t => t.c6.c2) (fun v t => @E8.rec (E8 β) (fun _ => E8 (E8 β)) (fun a0 a1 a2 a3 a4 a5 a6 a7 => E8.mk a0 a1 a2 a3 a4 a5 (@E8.rec β (fun _ => E8 β) (fun b0 b1 b2 b3 b4 b5 b6 b7 => E8.mk b0 b1 v b3 b4 b5 b6 b7) a6) a7) t))
    (Acc2.mk (fun t => t.c6.c3) (fun v t => @E8.rec (E8 β) (fun _ => E8 (E8 β)) (fun a0 a1 a2 a3 a4 a5 a6 a7 => E8.mk a0 a1 a2 a3 a4 a5 (@E8.rec β (fun _ => E8 β) (fun b0 b1 b2 b3 b4 b5 b6 b7 => E8.mk b0 b1 b2 v b4 b5 b6 b7) a6) a7) t))
    (Acc2.mk (fun t => t.c6.c4) (fun v t => @E8.rec (E8 β) (fun _ => E8 (E8 β)) (fun a0 a1 a2 a3 a4 a5 a6 a7 => E8.mk a0 a1 a2 a3 a4 a5 (@E8.rec β (fun _ => E8 β) (fun b0 b1 b2 b3 b4 b5 b6 b7 => E8.mk b0 b1 b2 b3 v b5 b6 b7) a6) a7) t))
    (Acc2.mk (fun t => t.c6.c5) (fun v t => @E8.rec (E8 β) (fun _ => E8 (E8 β)) (fun a0 a1 a2 a3 a4 a5 a6 a7 => E8.mk a0 a1 a2 a3 a4 a5 (@E8.rec β (fun _ => E8 β) (fun b0 b1 b2 b3 b4 b5 b6 b7 => E8.mk b0 b1 b2 b3 b4 v b6 b7) a6) a7) t))
    (Acc2.mk (fun t => t.c6.c6) (fun v t => @E8.rec (E8 β) (fun _ => E8 (E8 β)) (fun a0 a1 a2 a3 a4 a5 a6 a7 => E8.mk a0 a1 a2 a3 a4 a5 (@E8.rec β (fun _ => E8 β) (fun b0 b1 b2 b3 b4 b5 b6 b7 => E8.mk b0 b1 b2 b3 b4 b5 v b7) a6) a7) t))
    (Acc2.mk (fun t => t.c6.c7) (fun v t => @E8.rec (E8 β) (fun _ => E8 (E8 β)) (fun a0 a1 a2 a3 a4 a5 a6 a7 => E8.mk a0 a1 a2 a3 a4 a5 (@E8.rec β (fun _ => E8 β) (fun b0 b1 b2 b3 b4 b5 b6 b7 => E8.mk b0 b1 b2 b3 b4 b5 b6 v) a6) a7) t)) l)
  (@D8.rec (fun _ => Acc2 β)
    (Acc2.mk (fun t => t.c7.c0) (fun v t => @E8.rec (E8 β) (fun _ => E8 (E8 β)) (fun a0 a1 a2 a3 a4 a5 a6 a7 => E8.mk a0 a1 a2 a3 a4 a5 a6 (@E8.rec β (fun _ => E8 β) (fun b0 b1 b2 b3 b4 b5 b6 b7 => E8.mk v b1 b2 b3 b4 b5 b6 b7) a7)) t))
    (Acc2.mk (fun t => t.c7.c1) (fun v t => @E8.rec (E8 β) (fun _ => E8 (E8 β)) (fun a0 a1 a2 a3 a4 a5 a6 a7 => E8.mk a0 a1 a2 a3 a4 a5 a6 (@E8.rec β (fun _ => E8 β) (fun b0 b1 b2 b3 b4 b5 b6 b7 => E8.mk b0 v b2 b3 b4 b5 b6 b7) a7)) t))
    (Acc2.mk (fun t => t.c7.c2) (fun v t => @E8.rec (E8 β) (fun _ => E8 (E8 β)) (fun a0 a1 a2 a3 a4 a5 a6 a7 => E8.mk a0 a1 a2 a3 a4 a5 a6 (@E8.rec β (fun _ => E8 β) (fun b0 b1 b2 b3 b4 b5 b6 b7 => E8.mk b0 b1 v b3 b4 b5 b6 b7) a7)) t))
    (Acc2.mk (fun t => t.c7.c3) (fun v t => @E8.rec (E8 β) (fun _ => E8 (E8 β)) (fun a0 a1 a2 a3 a4 a5 a6 a7 => E8.mk a0 a1 a2 a3 a4 a5 a6 (@E8.rec β (fun _ => E8 β) (fun b0 b1 b2 b3 b4 b5 b6 b7 => E8.mk b0 b1 b2 v b4 b5 b6 b7) a7)) t))
    (Acc2.mk (fun t => t.c7.c4) (fun v t => @E8.rec (E8 β) (fun _ => E8 (E8 β)) (fun a0 a1 a2 a3 a4 a5 a6 a7 => E8.mk a0 a1 a2 a3 a4 a5 a6 (@E8.rec β (fun _ => E8 β) (fun b0 b1 b2 b3 b4 b5 b6 b7 => E8.mk b0 b1 b2 b3 v b5 b6 b7) a7)) t))
    (Acc2.mk (fun t => t.c7.c5) (fun v t => @E8.rec (E8 β) (fun _ => E8 (E8 β)) (fun a0 a1 a2 a3 a4 a5 a6 a7 => E8.mk a0 a1 a2 a3 a4 a5 a6 (@E8.rec β (fun _ => E8 β) (fun b0 b1 b2 b3 b4 b5 b6 b7 => E8.mk b0 b1 b2 b3 b4 v b6 b7) a7)) t))
    (Acc2.mk (fun t => t.c7.c6) (fun v t => @E8.rec (E8 β) (fun _ => E8 (E8 β)) (fun a0 a1 a2 a3 a4 a5 a6 a7 => E8.mk a0 a1 a2 a3 a4 a5 a6 (@E8.rec β (fun _ => E8 β) (fun b0 b1 b2 b3 b4 b5 b6 b7 => E8.mk b0 b1 b2 b3 b4 b5 v b7) a7)) t))
    (Acc2.mk (fun t => t.c7.c7) (fun v t => @E8.rec (E8 β) (fun _ => E8 (E8 β)) (fun a0 a1 a2 a3 a4 a5 a6 a7 => E8.mk a0 a1 a2 a3 a4 a5 a6 (@E8.rec β (fun _ => E8 β) (fun b0 b1 b2 b3 b4 b5 b6 b7 => E8.mk b0 b1 b2 b3 b4 b5 b6 v) a7)) t)) l) h
theorem acc2_g (h l : D8) (t : E8 (E8 β)) : (acc2 h l).g t = sel8 l (sel8 h t) := by cases h <;> cases l <;> rfl
theorem acc2_s (h l : D8) (v : β) (t : E8 (E8 β)) : (acc2 h l).s v t = put8 h (put8 l v (sel8 h t)) t := by cases t; cases h <;> cases l <;> rfl
def acc64 (n : Nat) : Acc2 β := acc2 (dig8 (Nat.div n 8)) (dig8 (Nat.mod n 8))
theorem acc64_same (n : Nat) (v : β) (t : E8 (E8 β)) : (acc64 n).g ((acc64 n).s v t) = v := by
  unfold acc64; rw [acc2_g, acc2_s, sel_put_same, sel_put_same]
theorem acc64_ne (n m : Nat) (hn : n < 64) (hm : m < 64) (h : n ≠ m) (v : β) (t : E8 (E8 β)) : (acc64 n).g ((acc64 m).s v t) = (acc64 n).g t := by
  unfold acc64; rw [acc2_g, acc2_s, acc2_g]
  by_cases hd : n / 8 = m / 8
  · have e : dig8 (Nat.div n 8) = dig8 (Nat.div m 8) := congrArg dig8 hd
    rw [e, sel_put_same, sel_put_ne]
    intro hx
    have h1 := num_dig (n % 8) (by omega)
    have h2 := num_dig (m % 8) (by omega)
    have hx : num8 (dig8 (n % 8)) = num8 (dig8 (m % 8)) := hx
    rw [h1, h2] at hx; omega
  · rw [sel_put_ne]
    intro hx
    have h1 := num_dig (n / 8) (by omega)
    have h2 := num_dig (m / 8) (by omega)
    have hx : num8 (dig8 (n / 8)) = num8 (dig8 (m / 8)) := hx
    rw [h1, h2] at hx; exact hd hx
def gB (k : Nat) (t : E8 (E8 (E8 (E8 β)))) : β := (acc64 (Nat.mod k 64)).g ((acc64 (Nat.div k 64)).g t)
def sB (k : Nat) (v : β) (t : E8 (E8 (E8 (E8 β)))) : E8 (E8 (E8 (E8 β))) := (acc64 (Nat.div k 64)).s ((acc64 (Nat.mod k 64)).s v ((acc64 (Nat.div k 64)).g t)) t
theorem gB_same (n : Nat) (v : β) (t : E8 (E8 (E8 (E8 β)))) : gB n (sB n v t) = v := by unfold gB sB; rw [acc64_same, acc64_same]
theorem gB_ne (n m : Nat) (hn : n < 4096) (hm : m < 4096) (h : n ≠ m) (v : β) (t : E8 (E8 (E8 (E8 β)))) : gB n (sB m v t) = gB n t := by
  unfold gB sB
  have a1 : Nat.div n 64 < 64 := show n / 64 < 64 by omega
  have a2 : Nat.div m 64 < 64 := show m / 64 < 64 by omega
  have a3 : Nat.mod n 64 < 64 := show n % 64 < 64 by omega
  have a4 : Nat.mod m 64 < 64 := show m % 64 < 64 by omega
  by_cases hd : Nat.div n 64 = Nat.div m 64
  · rw [hd, acc64_same, acc64_ne _ _ a3 a4]
    intro hx
    have hx : n % 64 = m % 64 := hx
    have hd : n / 64 = m / 64 := hd
    omega
  · rw [acc64_ne _ _ a1 a2 hd]
def gC (k : Nat) (t : E8 (E8 (E8 (E8 (E8 (E8 β)))))) : β := (acc64 (Nat.mod k 64)).g (gB (Nat.div k 64) t)
def sC (k : Nat) (v : β) (t : E8 (E8 (E8 (E8 (E8 (E8 β)))))) : E8 (E8 (E8 (E8 (E8 (E8 β))))) := sB (Nat.div k 64) ((acc64 (Nat.mod k 64)).s v (gB (Nat.div k 64) t)) t
theorem gC_same (n : Nat) (v : β) (t : E8 (E8 (E8 (E8 (E8 (E8 β)))))) : gC n (sC n v t) = v := by unfold gC sC; rw [gB_same, acc64_same]
theorem gC_ne (n m : Nat) (hn : n < 262144) (hm : m < 262144) (h : n ≠ m) (v : β) (t : E8 (E8 (E8 (E8 (E8 (E8 β)))))) : gC n (sC m v t) = gC n t := by
  unfold gC sC
  have a1 : Nat.div n 64 < 4096 := show n / 64 < 4096 by omega
  have a2 : Nat.div m 64 < 4096 := show m / 64 < 4096 by omega
  have a3 : Nat.mod n 64 < 64 := show n % 64 < 64 by omega
  have a4 : Nat.mod m 64 < 64 := show m % 64 < 64 by omega
  by_cases hd : Nat.div n 64 = Nat.div m 64
  · rw [hd, gB_same, acc64_ne _ _ a3 a4]
    intro hx
    have hx : n % 64 = m % 64 := hx
    have hd : n / 64 = m / 64 := hd
    omega
  · rw [gB_ne _ _ a1 a2 hd]
end
structure Tr (α : Type) where
  a : E8 (E8 (Option α))
  b : E8 (E8 (E8 (E8 (Option α))))
  c : E8 (E8 (E8 (E8 (E8 (E8 (Option α))))))
section
variable {α : Type}
structure Acc (α : Type) where
  g : Tr α → Option α
  s : Option α → Tr α → Option (Tr α)
def accT (h l : D8) : Acc α := @D8.rec (fun _ => Acc α)
  (@D8.rec (fun _ => Acc α)
    (Acc.mk (fun t => t.a.c0.c0) (fun v t => @Tr.rec α (fun _ => Option (Tr α)) (fun a b c => some (Tr.mk (@E8.rec (E8 (Option α)) (fun _ => E8 (E8 (Option α))) (fun a0 a1 a2 a3 a4 a5 a6 a7 => E8.mk (@E8.rec (Option α) (fun _ => E8 (Option α)) (fun b0 b1 b2 b3 b4 b5 b6 b7 => E8.mk v b1 b2 b3 b4 b5 b6 b7) a0) a1 a2 a3 a4 a5 a6 a7) a) b c)) t))
    (Acc.mk (fun t => t.a.c0.c1) (fun v t => @Tr.rec α (fun _ => Option (Tr α)) (fun a b c => some (Tr.mk (@E8.rec (E8 (Option α)) (fun _ => E8 (E8 (Option α))) (fun a0 a1 a2 a3 a4 a5 a6 a7 => E8.mk (@E8.rec (Option α) (fun _ => E8 (Option α)) (fun b0 b1 b2 b3 b4 b5 b6 b7 => E8.mk b0 v b2 b3 b4 b5 b6 b7) a0) a1 a2 a3 a4 a5 a6 a7) a) b c)) t))
    (Acc.mk (fun t => t.a.c0.c2) (fun v t => @Tr.rec α (fun _ => Option (Tr α)) (fun a b c => some (Tr.mk (@E8.rec (E8 (Option α)) (fun _ => E8 (E8 (Option α))) (fun a0 a1 a2 a3 a4 a5 a6 a7 => E8.mk (@E8.rec (Option α) (fun _ => E8 (Option α)) (fun b0 b1 b2 b3 b4 b5 b6 b7 => E8.mk b0 b1 v b3 b4 b5 b6 b7) a0) a1 a2 a3 a4 a5 a6 a7) a) b c)) t))
    (Acc.mk (fun t => t.a.c0.c3) (fun v t => @Tr.rec α (fun _ => Option (Tr α)) (fun a b c => some (Tr.mk (@E8.rec (E8 (Option α)) (fun _ => E8 (E8 (Option α))) (fun a0 a1 a2 a3 a4 a5 a6 a7 => E8.mk (@E8.rec (Option α) (fun _ => E8 (Option α)) (fun b0 b1 b2 b3 b4 b5 b6 b7 => E8.mk b0 b1 b2 v b4 b5 b6 b7) a0) a1 a2 a3 a4 a5 a6 a7) a) b c)) t))
    (Acc.mk (fun t => t.a.c0.c4) (fun v t => @Tr.rec α (fun _ => Option (Tr α)) (fun a b c => some (Tr.mk (@E8.rec (E8 (Option α)) (fun _ => E8 (E8 (Option α))) (fun a0 a1 a2 a3 a4 a5 a6 a7 => E8.mk (@E8.rec (Option α) (fun _ => E8 (Option α)) (fun b0 b1 b2 b3 b4 b5 b6 b7 => E8.mk b0 b1 b2 b3 v b5 b6 b7) a0) a1 a2 a3 a4 a5 a6 a7) a) b c)) t))
    (Acc.mk (fun t => t.a.c0.c5) (fun v t => @Tr.rec α (fun _ => Option (Tr α)) (fun a b c => some (Tr.mk (@E8.rec (E8 (Option α)) (fun _ => E8 (E8 (Option α))) (fun a0 a1 a2 a3 a4 a5 a6 a7 => E8.mk (@E8.rec (Option α) (fun _ => E8 (Option α)) (fun b0 b1 b2 b3 b4 b5 b6 b7 => E8.mk b0 b1 b2 b3 b4 v b6 b7) a0) a1 a2 a3 a4 a5 a6 a7) a) b c)) t))
    (Acc.mk (fun t => t.a.c0.c6) (fun v t => @Tr.rec α (fun _ => Option (Tr α)) (fun a b c => some (Tr.mk (@E8.rec (E8 (Option α)) (fun _ => E8 (E8 (Option α))) (fun a0 a1 a2 a3 a4 a5 a6 a7 => E8.mk (@E8.rec (Option α) (fun _ => E8 (Option α)) (fun b0 b1 b2 b3 b4 b5 b6 b7 => E8.mk b0 b1 b2 b3 b4 b5 v b7) a0) a1 a2 a3 a4 a5 a6 a7) a) b c)) t))
    (Acc.mk (fun t => t.a.c0.c7) (fun v t => @Tr.rec α (fun _ => Option (Tr α)) (fun a b c => some (Tr.mk (@E8.rec (E8 (Option α)) (fun _ => E8 (E8 (Option α))) (fun a0 a1 a2 a3 a4 a5 a6 a7 => E8.mk (@E8.rec (Option α) (fun _ => E8 (Option α)) (fun b0 b1 b2 b3 b4 b5 b6 b7 => E8.mk b0 b1 b2 b3 b4 b5 b6 v) a0) a1 a2 a3 a4 a5 a6 a7) a) b c)) t)) l)
  (@D8.rec (fun _ => Acc α)
    (Acc.mk (fun t => t.a.c1.c0) (fun v t => @Tr.rec α (fun _ => Option (Tr α)) (fun a b c => some (Tr.mk (@E8.rec (E8 (Option α)) (fun _ => E8 (E8 (Option α))) (fun a0 a1 a2 a3 a4 a5 a6 a7 => E8.mk a0 (@E8.rec (Option α) (fun _ => E8 (Option α)) (fun b0 b1 b2 b3 b4 b5 b6 b7 => E8.mk v b1 b2 b3 b4 b5 b6 b7) a1) a2 a3 a4 a5 a6 a7) a) b c)) t))
    (Acc.mk (fun t => t.a.c1.c1) (fun v t => @Tr.rec α (fun _ => Option (Tr α)) (fun a b c => some (Tr.mk (@E8.rec (E8 (Option α)) (fun _ => E8 (E8 (Option α))) (fun a0 a1 a2 a3 a4 a5 a6 a7 => E8.mk a0 (@E8.rec (Option α) (fun _ => E8 (Option α)) (fun b0 b1 b2 b3 b4 b5 b6 b7 => E8.mk b0 v b2 b3 b4 b5 b6 b7) a1) a2 a3 a4 a5 a6 a7) a) b c)) t))
    (Acc.mk (fun t => t.a.c1.c2) (fun v t => @Tr.rec α (fun _ => Option (Tr α)) (fun a b c => some (Tr.mk (@E8.rec (E8 (Option α)) (fun _ => E8 (E8 (Option α))) (fun a0 a1 a2 a3 a4 a5 a6 a7 => E8.mk a0 (@E8.rec (Option α) (fun _ => E8 (Option α)) (fun b0 b1 b2 b3 b4 b5 b6 b7 => E8.mk b0 b1 v b3 b4 b5 b6 b7) a1) a2 a3 a4 a5 a6 a7) a) b c)) t))
    (Acc.mk (fun t => t.a.c1.c3) (fun v t => @Tr.rec α (fun _ => Option (Tr α)) (fun a b c => some (Tr.mk (@E8.rec (E8 (Option α)) (fun _ => E8 (E8 (Option α))) (fun a0 a1 a2 a3 a4 a5 a6 a7 => E8.mk a0 (@E8.rec (Option α) (fun _ => E8 (Option α)) (fun b0 b1 b2 b3 b4 b5 b6 b7 => E8.mk b0 b1 b2 v b4 b5 b6 b7) a1) a2 a3 a4 a5 a6 a7) a) b c)) t))
    (Acc.mk (fun t => t.a.c1.c4) (fun v t => @Tr.rec α (fun _ => Option (Tr α)) (fun a b c => some (Tr.mk (@E8.rec (E8 (Option α)) (fun _ => E8 (E8 (Option α))) (fun a0 a1 a2 a3 a4 a5 a6 a7 => E8.mk a0 (@E8.rec (Option α) (fun _ => E8 (Option α)) (fun b0 b1 b2 b3 b4 b5 b6 b7 => E8.mk b0 b1 b2 b3 v b5 b6 b7) a1) a2 a3 a4 a5 a6 a7) a) b c)) t))
    (Acc.mk (fun t => t.a.c1.c5) (fun v t => @Tr.rec α (fun _ => Option (Tr α)) (fun a b c => some (Tr.mk (@E8.rec (E8 (Option α)) (fun _ => E8 (E8 (Option α))) (fun a0 a1 a2 a3 a4 a5 a6 a7 => E8.mk a0 (@E8.rec (Option α) (fun _ => E8 (Option α)) (fun b0 b1 b2 b3 b4 b5 b6 b7 => E8.mk b0 b1 b2 b3 b4 v b6 b7) a1) a2 a3 a4 a5 a6 a7) a) b c)) t))
    (Acc.mk (fun t => t.a.c1.c6) (fun v t => @Tr.rec α (fun _ => Option (Tr α)) (fun a b c => some (Tr.mk (@E8.rec (E8 (Option α)) (fun _ => E8 (E8 (Option α))) (fun a0 a1 a2 a3 a4 a5 a6 a7 => E8.mk a0 (@E8.rec (Option α) (fun _ => E8 (Option α)) (fun b0 b1 b2 b3 b4 b5 b6 b7 => E8.mk b0 b1 b2 b3 b4 b5 v b7) a1) a2 a3 a4 a5 a6 a7) a) b c)) t))
    (Acc.mk (fun t => t.a.c1.c7) (fun v t => @Tr.rec α (fun _ => Option (Tr α)) (fun a b c => some (Tr.mk (@E8.rec (E8 (Option α)) (fun _ => E8 (E8 (Option α))) (fun a0 a1 a2 a3 a4 a5 a6 a7 => E8.mk a0 (@E8.rec (Option α) (fun _ => E8 (Option α)) (fun b0 b1 b2 b3 b4 b5 b6 b7 => E8.mk b0 b1 b2 b3 b4 b5 b6 v) a1) a2 a3 a4 a5 a6 a7) a) b c)) t)) l)
  (@D8.rec (fun _ => Acc α)
    (Acc.mk (fun t => t.a.c2.c0) (fun v t => @Tr.rec α (fun _ => Option (Tr α)) (fun a b c => some (Tr.mk (@E8.rec (E8 (Option α)) (fun _ => E8 (E8 (Option α))) (fun a0 a1 a2 a3 a4 a5 a6 a7 => E8.mk a0 a1 (@E8.rec (Option α) (fun _ => E8 (Option α)) (fun b0 b1 b2 b3 b4 b5 b6 b7 => E8.mk v b1 b2 b3 b4 b5 b6 b7) a2) a3 a4 a5 a6 a7) a) b c)) t))
    (Acc.mk (fun t => t.a.c2.c1) (fun v t => @Tr.rec α (fun _ => Option (Tr α)) (fun a b c => some (Tr.mk (@E8.rec (E8 (Option α)) (fun _ => E8 (E8 (Option α))) (fun a0 a1 a2 a3 a4 a5 a6 a7 => E8.mk a0 a1 (@E8.rec (Option α) (fun _ => E8 (Option α)) (fun b0 b1 b2 b3 b4 b5 b6 b7 => E8.mk b0 v b2 b3 b4 b5 b6 b7) a2) a3 a4 a5 a6 a7) a) b c)) t))
    (Acc.mk (fun t => t.a.c2.c2) (fun v t => @Tr.rec α (fun _ => Option (Tr α)) (fun a b c => some (Tr.mk (@E8.rec (E8 (Option α)) (fun _ => E8 (E8 (Option α))) (fun a0 a1 a2 a3 a4 a5 a6 a7 => E8.mk a0 a1 (@E8.rec (Option α) (fun _ => E8 (Option α)) (fun b0 b1 b2 b3 b4 b5 b6 b7 => E8.mk b0 b1 v b3 b4 b5 b6 b7) a2) a3 a4 a5 a6 a7) a) b c)) t))
    (Acc.mk (fun t => t.a.c2.c3) (fun v t => @Tr.rec α (fun _ => Option (Tr α)) (fun a b c => some (Tr.mk (@E8.rec (E8 (Option α)) (fun _ => E8 (E8 (Option α))) (fun a0 a1 a2 a3 a4 a5 a6 a7 => E8.mk a0 a1 (@E8.rec (Option α) (fun _ => E8 (Option α)) (fun b0 b1 b2 b3 b4 b5 b6 b7 => E8.mk b0 b1 b2 v b4 b5 b6 b7) a2) a3 a4 a5 a6 a7) a) b c)) t))
    (Acc.mk (fun t => t.a.c2.c4) (fun v t => @Tr.rec α (fun _ => Option (Tr α)) (fun a b c => some (Tr.mk (@E8.rec (E8 (Option α)) (fun _ => E8 (E8 (Option α))) (fun a0 a1 a2 a3 a4 a5 a6 a7 => E8.mk a0 a1 (@E8.rec (Option α) (fun _ => E8 (Option α)) (fun b0 b1 b2 b3 b4 b5 b6 b7 => E8.mk b0 b1 b2 b3 v b5 b6 b7) a2) a3 a4 a5 a6 a7) a) b c)) t))
    (Acc.mk (fun t => t.a.c2.c5) (fun v t => @Tr.rec α (fun _ => Option (Tr α)) (fun a b c => some (Tr.mk (@E8.rec (E8 (Option α)) (fun _ => E8 (E8 (Option α))) (fun a0 a1 a2 a3 a4 a5 a6 a7 => E8.mk a0 a1 (@E8.rec (Option α) (fun _ => E8 (Option α)) (fun b0 b1 b2 b3 b4 b5 b6 b7 => E8.mk b0 b1 b2 b3 b4 v b6 b7) a2) a3 a4 a5 a6 a7) a) b c)) t))
    (Acc.mk (fun t => t.a.c2.c6) (fun v t => @Tr.rec α (fun _ => Option (Tr α)) (fun a b c => some (Tr.mk (@E8.rec (E8 (Option α)) (fun _ => E8 (E8 (Option α))) (fun a0 a1 a2 a3 a4 a5 a6 a7 => E8.mk a0 a1 (@E8.rec (Option α) (fun _ => E8 (Option α)) (fun b0 b1 b2 b3 b4 b5 b6 b7 => E8.mk b0 b1 b2 b3 b4 b5 v b7) a2) a3 a4 a5 a6 a7) a) b c)) t))
    (Acc.mk (fun t => t.a.c2.c7) (fun v t => @Tr.rec α (fun _ => Option (Tr α)) (fun a b c => some (Tr.mk (@E8.rec (E8 (Option α)) (fun _ => E8 (E8 (Option α))) (fun a0 a1 a2 a3 a4 a5 a6 a7 => E8.mk a0 a1 (@E8.rec (Option α) (fun _ => E8 (Option α)) (fun b0 b1 b2 b3 b4 b5 b6 b7 => E8.mk b0 b1 b2 b3 b4 b5 b6 v) a2) a3 a4 a5 a6 a7) a) b c)) t)) l)
  (@D8.rec (fun _ => Acc α)
    (Acc.mk (fun t => t.a.c3.c0) (fun v t => @Tr.rec α (fun _ => Option (Tr α)) (fun a b c => some (Tr.mk (@E8.rec (E8 (Option α)) (fun _ => E8 (E8 (Option α))) (fun a0 a1 a2 a3 a4 a5 a6 a7 => E8.mk a0 a1 a2 (@E8.rec (Option α) (fun _ => E8 (Option α)) (fun b0 b1 b2 b3 b4 b5 b6 b7 => E8.mk v b1 b2 b3 b4 b5 b6 b7) a3) a4 a5 a6 a7) a) b c)) t))
    (Acc.mk (fun t => t.a.c3.c1) (fun v t => @Tr.rec α (fun _ => Option (Tr α)) (fun a b c => some (Tr.mk (@E8.rec (E8 (Option α)) (fun _ => E8 (E8 (Option α))) (fun a0 a1 a2 a3 a4 a5 a6 a7 => E8.mk a0 a1 a2 (@E8.rec (Option α) (fun _ => E8 (Option α)) (fun b0 b1 b2 b3 b4 b5 b6 b7 => E8.mk b0 v b2 b3 b4 b5 b6 b7) a3) a4 a5 a6 a7) a) b c)) t))
    (Acc.mk (fun t => t.a.c3.c2) (fun v t => @Tr.rec α (fun _ => Option (Tr α)) (fun a b c => some (Tr.mk (@E8.rec (E8 (Option α)) (fun _ => E8 (E8 (Option α))) (fun a0 a1 a2 a3 a4 a5 a6 a7 => E8.mk a0 a1 a2 (@E8.rec (Option α) (fun _ => E8 (Option α)) (fun b0 b1 b2 b3 b4 b5 b6 b7 => E8.mk b0 b1 v b3 b4 b5 b6 b7) a3) a4 a5 a6 a7) a) b c)) t))
    (Acc.mk (fun t => t.a.c3.c3) (fun v t => @Tr.rec α (fun _ => Option (Tr α)) (fun a b c => some (Tr.mk (@E8.rec (E8 (Option α)) (fun _ => E8 (E8 (Option α))) (fun a0 a1 a2 a3 a4 a5 a6 a7 => E8.mk a0 a1 a2 (@E8.rec (Option α) (fun _ => E8 (Option α)) (fun b0 b1 b2 b3 b4 b5 b6 b7 => E8.mk b0 b1 b2 v b4 b5 b6 b7) a3) a4 a5 a6 a7) a) b c)) t))
    (Acc.mk (fun t => t.a.c3.c4) (fun v t => @Tr.rec α (fun _ => Option (Tr α)) (fun a b c => some (Tr.mk (@E8.rec (E8 (Option α)) (fun _ => E8 (E8 (Option α))) (fun a0 a1 a2 a3 a4 a5 a6 a7 => E8.mk a0 a1 a2 (@E8.rec (Option α) (fun _ => E8 (Option α)) (fun b0 b1 b2 b3 b4 b5 b6 b7 => E8.mk b0 b1 b2 b3 v b5 b6 b7) a3) a4 a5 a6 a7) a) b c)) t))
    (Acc.mk (fun t => t.a.c3.c5) (fun v t => @Tr.rec α (fun _ => Option (Tr α)) (fun a b c => some (Tr.mk (@E8.rec (E8 (Option α)) (fun _ => E8 (E8 (Option α))) (fun a0 a1 a2 a3 a4 a5 a6 a7 => E8.mk a0 a1 a2 (@E8.rec (Option α) (fun _ => E8 (Option α)) (fun b0 b1 b2 b3 b4 b5 b6 b7 => E8.mk b0 b1 b2 b3 b4 v b6 b7) a3) a4 a5 a6 a7) a) b c)) t))
    (Acc.mk (fun t => t.a.c3.c6) (fun v t => @Tr.rec α (fun _ => Option (Tr α)) (fun a b c => some (Tr.mk (@E8.rec (E8 (Option α)) (fun _ => E8 (E8 (Option α))) (fun a0 a1 a2 a3 a4 a5 a6 a7 => E8.mk a0 a1 a2 (@E8.rec (Option α) (fun _ => E8 (Option α)) (fun b0 b1 b2 b3 b4 b5 b6 b7 => E8.mk b0 b1 b2 b3 b4 b5 v b7) a3) a4 a5 a6 a7) a) b c)) t))
    (Acc.mk (fun t => t.a.c3.c7) (fun v t => @Tr.rec α (fun _ => Option (Tr α)) (fun a b c => some (Tr.mk (@E8.rec (E8 (Option α)) (fun _ => E8 (E8 (Option α))) (fun a0 a1 a2 a3 a4 a5 a6 a7 => E8.mk a0 a1 a2 (@E8.rec (Option α) (fun _ => E8 (Option α)) (fun b0 b1 b2 b3 b4 b5 b6 b7 => E8.mk b0 b1 b2 b3 b4 b5 b6 v) a3) a4 a5 a6 a7) a) b c)) t)) l)
  (@D8.rec (fun _ => Acc α)
    (Acc.mk (fun t => t.a.c4.c0) (fun v t => @Tr.rec α (fun _ => Option (Tr α)) (fun a b c => some (Tr.mk (@E8.rec (E8 (Option α)) (fun _ => E8 (E8 (Option α))) (fun a0 a1 a2 a3 a4 a5 a6 a7 => E8.mk a0 a1 a2 a3 (@E8.rec (Option α) (fun _ => E8 (Option α)) (fun b0 b1 b2 b3 b4 b5 b6 b7 => E8.mk v b1 b2 b3 b4 b5 b6 b7) a4) a5 a6 a7) a) b c)) t))
    (Acc.mk (fun t => t.a.c4.c1) (fun v t => @Tr.rec α (fun _ => Option (Tr α)) (fun a b c => some (Tr.mk (@E8.rec (E8 (Option α)) (fun _ => E8 (E8 (Option α))) (fun a0 a1 a2 a3 a4 a5 a6 a7 => E8.mk a0 a1 a2 a3 (@E8.rec (Option α) (fun _ => E8 (Option α)) (fun b0 b1 b2 b3 b4 b5 b6 b7 => E8.mk b0 v b2 b3 b4 b5 b6 b7) a4) a5 a6 a7) a) b c)) t))
    (Acc.mk (fun t => t.a.c4.c2) (fun v t => @Tr.rec α (fun _ => Option (Tr α)) (fun a b c => some (Tr.mk (@E8.rec (E8 (Option α)) (fun _ => E8 (E8 (Option α))) (fun a0 a1 a2 a3 a4 a5 a6 a7 => E8.mk a0 a1 a2 a3 (@E8.rec (Option α) (fun _ => E8 (Option α)) (fun b0 b1 b2 b3 b4 b5 b6 b7 => E8.mk b0 b1 v b3 b4 b5 b6 b7) a4) a5 a6 a7) a) b c)) t))
    (Acc.mk (fun t => t.a.c4.c3) (fun v t => @Tr.rec α (fun _ => Option (Tr α)) (fun a b c => some (Tr.mk (@E8.rec (E8 (Option α)) (fun _ => E8 (E8 (Option α))) (fun a0 a1 a2 a3 a4 a5 a6 a7 => E8.mk a0 a1 a2 a3 (@E8.rec (Option α) (fun _ => E8 (Option α)) (fun b0 b1 b2 b3 b4 b5 b6 b7 => E8.mk b0 b1 b2 v b4 b5 b6 b7) a4) a5 a6 a7) a) b c)) t))
    (Acc.mk (fun t => t.a.c4.c4) (fun v t => @Tr.rec α (fun _ => Option (Tr α)) (fun a b c => some (Tr.mk (@E8.rec (E8 (Option α)) (fun _ => E8 (E8 (Option α))) (fun a0 a1 a2 a3 a4 a5 a6 a7 => E8.mk a0 a1 a2 a3 (@E8.rec (Option α) (fun _ => E8 (Option α)) (fun b0 b1 b2 b3 b4 b5 b6 b7 => E8.mk b0 b1 b2 b3 v b5 b6 b7) a4) a5 a6 a7) a) b c)) t))
    (Acc.mk (fun t => t.a.c4.c5) (fun v t => @Tr.rec α (fun _ => Option (Tr α)) (fun a b c => some (Tr.mk (@E8.rec (E8 (Option α)) (fun _ => E8 (E8 (Option α))) (fun a0 a1 a2 a3 a4 a5 a6 a7 => E8.mk a0 a1 a2 a3 (@E8.rec (Option α) (fun _ => E8 (Option α)) (fun b0 b1 b2 b3 b4 b5 b6 b7 => E8.mk b0 b1 b2 b3 b4 v b6 b7) a4) a5 a6 a7) a) b c)) t))
    (Acc.mk (fun t => t.a.c4.c6) (fun v t => @Tr.rec α (fun _ => Option (Tr α)) (fun a b c => some (Tr.mk (@E8.rec (E8 (Option α)) (fun _ => E8 (E8 (Option α))) (fun a0 a1 a2 a3 a4 a5 a6 a7 => E8.mk a0 a1 a2 a3 (@E8.rec (Option α) (fun _ => E8 (Option α)) (fun b0 b1 b2 b3 b4 b5 b6 b7 => E8.mk b0 b1 b2 b3 b4 b5 v b7) a4) a5 a6 a7) a) b c)) t))
    (Acc.mk (fun t => t.a.c4.c7) (fun v t => @Tr.rec α (fun _ => Option (Tr α)) (fun a b c => some (Tr.mk (@E8.rec (E8 (Option α)) (fun _ => E8 (E8 (Option α))) (fun a0 a1 a2 a3 a4 a5 a6 a7 => E8.mk a0 a1 a2 a3 (@E8.rec (Option α) (fun _ => E8 (Option α)) (fun b0 b1 b2 b3 b4 b5 b6 b7 => E8.mk b0 b1 b2 b3 b4 b5 b6 v) a4) a5 a6 a7) a) b c)) t)) l)
  (@D8.rec (fun _ => Acc α)
    (Acc.mk (fun t => t.a.c5.c0) (fun v t => @Tr.rec α (fun _ => Option (Tr α)) (fun a b c => some (Tr.mk (@E8.rec (E8 (Option α)) (fun _ => E8 (E8 (Option α))) (fun a0 a1 a2 a3 a4 a5 a6 a7 => E8.mk a0 a1 a2 a3 a4 (@E8.rec (Option α) (fun _ => E8 (Option α)) (fun b0 b1 b2 b3 b4 b5 b6 b7 => E8.mk v b1 b2 b3 b4 b5 b6 b7) a5) a6 a7) a) b c)) t))
    (Acc.mk (fun t => t.a.c5.c1) (fun v t => @Tr.rec α (fun _ => Option (Tr α)) (fun a b c => some (Tr.mk (@E8.rec (E8 (Option α)) (fun _ => E8 (E8 (Option α))) (fun a0 a1 a2 a3 a4 a5 a6 a7 => E8.mk a0 a1 a2 a3 a4 (@E8.rec (Option α) (fun _ => E8 (Option α)) (fun b0 b1 b2 b3 b4 b5 b6 b7 => E8.mk b0 v b2 b3 b4 b5 b6 b7) a5) a6 a7) a) b c)) t))
    (Acc.mk (fun t => t.a.c5.c2) (fun v t => @Tr.rec α (fun _ => Option (Tr α)) (fun a b c => some (Tr.mk (@E8.rec (E8 (Option α)) (fun _ => E8 (E8 (Option α))) (fun a0 a1 a2 a3 a4 a5 a6 a7 => E8.mk a0 a1 a2 a3 a4 (@E8.rec (Option α) (fun _ => E8 (Option α)) (fun b0 b1 b2 b3 b4 b5 b6 b7 => E8.mk b0 b1 v b3 b4 b5 b6 b7) a5) a6 a7) a) b c)) t))
    (Acc.mk (fun t => t.a.c5.c3) (fun v t => @Tr.rec α (fun _ => Option (Tr α)) (fun a b c => some (Tr.mk (@E8.rec (E8 (Option α)) (fun _ => E8 (E8 (Option α))) (fun a0 a1 a2 a3 a4 a5 a6 a7 => E8.mk a0 a1 a2 a3 a4 (@E8.rec (Option α) (fun _ => E8 (Option α)) (fun b0 b1 b2 b3 b4 b5 b6 b7 => E8.mk b0 b1 b2 v b4 b5 b6 b7) a5) a6 a7) a) b c)) t))
    (Acc.mk (fun t => t.a.c5.c4) (fun v t => @Tr.rec α (fun _ => Option (Tr α)) (fun a b c => some (Tr.mk (@E8.rec (E8 (Option α)) (fun _ => E8 (E8 (Option α))) (fun a0 a1 a2 a3 a4 a5 a6 a7 => E8.mk a0 a1 a2 a3 a4 (@E8.rec (Option α) (fun _ => E8 (Option α)) (fun b0 b1 b2 b3 b4 b5 b6 b7 => E8.mk b0 b1 b2 b3 v b5 b6 b7) a5) a6 a7) a) b c)) t))
    (Acc.mk (fun t => t.a.c5.c5) (fun v t => @Tr.rec α (fun _ => Option (Tr α)) (fun a b c => some (Tr.mk (@E8.rec (E8 (Option α)) (fun _ => E8 (E8 (Option α))) (fun a0 a1 a2 a3 a4 a5 a6 a7 => E8.mk a0 a1 a2 a3 a4 (@E8.rec (Option α) (fun _ => E8 (Option α)) (fun b0 b1 b2 b3 b4 b5 b6 b7 => E8.mk b0 b1 b2 b3 b4 v b6 b7) a5) a6 a7) a) b c)) t))
    (Acc.mk (fun t => t.a.c5.c6) (fun v t => @Tr.rec α (fun _ => Option (Tr α)) (fun a b c => some (Tr.mk (@E8.rec (E8 (Option α)) (fun _ => E8 (E8 (Option α))) (fun a0 a1 a2 a3 a4 a5 a6 a7 => E8.mk a0 a1 a2 a3 a4 (@E8.rec (Option α) (fun _ => E8 (Option α)) (fun b0 b1 b2 b3 b4 b5 b6 b7 => E8.mk b0 b1 b2 b3 b4 b5 v b7) a5) a6 a7) a) b c)) t))
    (Acc.mk (fun t => t.a.c5.c7) (fun v t => @Tr.rec α (fun _ => Option (Tr α)) (fun a b c => some (Tr.mk (@E8.rec (E8 (Option α)) (fun _ => E8 (E8 (Option α))) (fun a0 a1 a2 a3 a4 a5 a6 a7 => E8.mk a0 a1 a2 a3 a4 (@E8.rec (Option α) (fun _ => E8 (Option α)) (fun b0 b1 b2 b3 b4 b5 b6 b7 => E8.mk b0 b1 b2 b3 b4 b5 b6 v) a5) a6 a7) a) b c)) t)) l)
  (@D8.rec (fun _ => Acc α)
    (Acc.mk (fun t => t.a.c6.c0) (fun v t => @Tr.rec α (fun _ => Option (Tr α)) (fun a b c => some (Tr.mk (@E8.rec (E8 (Option α)) (fun _ => E8 (E8 (Option α))) (fun a0 a1 a2 a3 a4 a5 a6 a7 => E8.mk a0 a1 a2 a3 a4 a5 (@E8.rec (Option α) (fun _ => E8 (Option α)) (fun b0 b1 b2 b3 b4 b5 b6 b7 => E8.mk v b1 b2 b3 b4 b5 b6 b7) a6) a7) a) b c)) t))
    (Acc.mk (fun t => t.a.c6.c1) (fun v t => @Tr.rec α (fun _ => Option (Tr α)) (fun a b c => some (Tr.mk (@E8.rec (E8 (Option α)) (fun _ => E8 (E8 (Option α))) (fun a0 a1 a2 a3 a4 a5 a6 a7 => E8.mk a0 a1 a2 a3 a4 a5 (@E8.rec (Option α) (fun _ => E8 (Option α)) (fun b0 b1 b2 b3 b4 b5 b6 b7 => E8.mk b0 v b2 b3 b4 b5 b6 b7) a6) a7) a) b c)) t))
    (Acc.mk (fun t => t.a.c6.c2) (fun v t => @Tr.rec α (fun _ => Option (Tr α)) (fun a b c => some (Tr.mk (@E8.rec (E8 (Option α)) (fun _ => E8 (E8 (Option α))) (fun a0 a1 a2 a3 a4 a5 a6 a7 => E8.mk a0 a1 a2 a3 a4 a5 (@E8.rec (Option α) (fun _ => E8 (Option α)) (fun b0 b1 b2 b3 b4 b5 b6 b7 => E8.mk b0 b1 v b3 b4 b5 b6 b7) a6) a7) a) b c)) t))
    (Acc.mk (fun t => t.a.c6.c3) (fun v t => @Tr.rec α (fun _ => Option (Tr α)) (fun a b c => some (Tr.mk (@E8.rec (E8 (Option α)) (fun _ => E8 (E8 (Option α))) (fun a0 a1 a2 a3 a4 a5 a6 a7 => E8.mk a0 a1 a2 a3 a4 a5 (@E8.rec (Option α) (fun _ => E8 (Option α)) (fun b0 b1 b2 b3 b4 b5 b6 b7 => E8.mk b0 b1 b2 v b4 b5 b6 b7) a6) a7) a) b c)) t))
    (Acc.mk (fun t => t.a.c6.c4) (fun v t => @Tr.rec α (fun _ => Option (Tr α)) (fun a b c => some (Tr.mk (@E8.rec (E8 (Option α)) (fun _ => E8 (E8 (Option α))) (fun a0 a1 a2 a3 a4 a5 a6 a7 => E8.mk a0 a1 a2 a3 a4 a5 (@E8.rec (Option α) (fun _ => E8 (Option α)) (fun b0 b1 b2 b3 b4 b5 b6 b7 => E8.mk b0 b1 b2 b3 v b5 b6 b7) a6) a7) a) b c)) t))
    (Acc.mk (fun t => t.a.c6.c5) (fun v t => @Tr.rec α (fun _ => Option (Tr α)) (fun a b c => some (Tr.mk (@E8.rec (E8 (Option α)) (fun _ => E8 (E8 (Option α))) (fun a0 a1 a2 a3 a4 a5 a6 a7 => E8.mk a0 a1 a2 a3 a4 a5 (@E8.rec (Option α) (fun _ => E8 (Option α)) (fun b0 b1 b2 b3 b4 b5 b6 b7 => E8.mk b0 b1 b2 b3 b4 v b6 b7) a6) a7) a) b c)) t))
    (Acc.mk (fun t => t.a.c6.c6) (fun v t => @Tr.rec α (fun _ => Option (Tr α)) (fun a b c => some (Tr.mk (@E8.rec (E8 (Option α)) (fun _ => E8 (E8 (Option α))) (fun a0 a1 a2 a3 a4 a5 a6 a7 => E8.mk a0 a1 a2 a3 a4 a5 (@E8.rec (Option α) (fun _ => E8 (Option α)) (fun b0 b1 b2 b3 b4 b5 b6 b7 => E8.mk b0 b1 b2 b3 b4 b5 v b7) a6) a7) a) b c)) t))
    (Acc.mk (fun t => t.a.c6.c7) (fun v t => @Tr.rec α (fun _ => Option (Tr α)) (fun a b c => some (Tr.mk (@E8.rec (E8 (Option α)) (fun _ => E8 (E8 (Option α))) (fun a0 a1 a2 a3 a4 a5 a6 a7 => E8.mk a0 a1 a2 a3 a4 a5 (@E8.rec (Option α) (fun _ => E8 (Option α)) (fun b0 b1 b2 b3 b4 b5 b6 b7 => E8.mk b0 b1 b2 b3 b4 b5 b6 v) a6) a7) a) b c)) t)) l)
  (@D8.rec (fun _ => Acc α)
    (Acc.mk (fun t => t.a.c7.c0) (fun v t => @Tr.rec α (fun _ => Option (Tr α)) (fun a b c => some (Tr.mk (@E8.rec (E8 (Option α)) (fun _ => E8 (E8 (Option α))) (fun a0 a1 a2 a3 a4 a5 a6 a7 => E8.mk a0 a1 a2 a3 a4 a5 a6 (@E8.rec (Option α) (fun _ => E8 (Option α)) (fun b0 b1 b2 b3 b4 b5 b6 b7 => E8.mk v b1 b2 b3 b4 b5 b6 b7) a7)) a) b c)) t))
    (Acc.mk (fun t => t.a.c7.c1) (fun v t => @Tr.rec α (fun _ => Option (Tr α)) (fun a b c => some (Tr.mk (@E8.rec (E8 (Option α)) (fun _ => E8 (E8 (Option α))) (fun a0 a1 a2 a3 a4 a5 a6 a7 => E8.mk a0 a1 a2 a3 a4 a5 a6 (@E8.rec (Option α) (fun _ => E8 (Option α)) (fun b0 b1 b2 b3 b4 b5 b6 b7 => E8.mk b0 v b2 b3 b4 b5 b6 b7) a7)) a) b c)) t))
    (Acc.mk (fun t => t.a.c7.c2) (fun v t => @Tr.rec α (fun _ => Option (Tr α)) (fun a b c => some (Tr.mk (@E8.rec (E8 (Option α)) (fun _ => E8 (E8 (Option α))) (fun a0 a1 a2 a3 a4 a5 a6 a7 => E8.mk a0 a1 a2 a3 a4 a5 a6 (@E8.rec (Option α) (fun _ => E8 (Option α)) (fun b0 b1 b2 b3 b4 b5 b6 b7 => E8.mk b0 b1 v b3 b4 b5 b6 b7) a7)) a) b c)) t))
    (Acc.mk (fun t => t.a.c7.c3) (fun v t => @Tr.rec α (fun _ => Option (Tr α)) (fun a b c => some (Tr.mk (@E8.rec (E8 (Option α)) (fun _ => E8 (E8 (Option α))) (fun a0 a1 a2 a3 a4 a5 a6 a7 => E8.mk a0 a1 a2 a3 a4 a5 a6 (@E8.rec (Option α) (fun _ => E8 (Option α)) (fun b0 b1 b2 b3 b4 b5 b6 b7 => E8.mk b0 b1 b2 v b4 b5 b6 b7) a7)) a) b c)) t))
    (Acc.mk (fun t => t.a.c7.c4) (fun v t => @Tr.rec α (fun _ => Option (Tr α)) (fun a b c => some (Tr.mk (@E8.rec (E8 (Option α)) (fun _ => E8 (E8 (Option α))) (fun a0 a1 a2 a3 a4 a5 a6 a7 => E8.mk a0 a1 a2 a3 a4 a5 a6 (@E8.rec (Option α) (fun _ => E8 (Option α)) (fun b0 b1 b2 b3 b4 b5 b6 b7 => E8.mk b0 b1 b2 b3 v b5 b6 b7) a7)) a) b c)) t))
    (Acc.mk (fun t => t.a.c7.c5) (fun v t => @Tr.rec α (fun _ => Option (Tr α)) (fun a b c => some (Tr.mk (@E8.rec (E8 (Option α)) (fun _ => E8 (E8 (Option α))) (fun a0 a1 a2 a3 a4 a5 a6 a7 => E8.mk a0 a1 a2 a3 a4 a5 a6 (@E8.rec (Option α) (fun _ => E8 (Option α)) (fun b0 b1 b2 b3 b4 b5 b6 b7 => E8.mk b0 b1 b2 b3 b4 v b6 b7) a7)) a) b c)) t))
    (Acc.mk (fun t => t.a.c7.c6) (fun v t => @Tr.rec α (fun _ => Option (Tr α)) (fun a b c => some (Tr.mk (@E8.rec (E8 (Option α)) (fun _ => E8 (E8 (Option α))) (fun a0 a1 a2 a3 a4 a5 a6 a7 => E8.mk a0 a1 a2 a3 a4 a5 a6 (@E8.rec (Option α) (fun _ => E8 (Option α)) (fun b0 b1 b2 b3 b4 b5 b6 b7 => E8.mk b0 b1 b2 b3 b4 b5 v b7) a7)) a) b c)) t))
    (Acc.mk (fun t => t.a.c7.c7) (fun v t => @Tr.rec α (fun _ => Option (Tr α)) (fun a b c => some (Tr.mk (@E8.rec (E8 (Option α)) (fun _ => E8 (E8 (Option α))) (fun a0 a1 a2 a3 a4 a5 a6 a7 => E8.mk a0 a1 a2 a3 a4 a5 a6 (@E8.rec (Option α) (fun _ => E8 (Option α)) (fun b0 b1 b2 b3 b4 b5 b6 b7 => E8.mk b0 b1 b2 b3 b4 b5 b6 v) a7)) a) b c)) t)) l) h
def accA (n : Nat) : Acc α := accT (dig8 (Nat.div n 8)) (dig8 (Nat.mod n 8))
theorem accT_g (h l : D8) (t : Tr α) : (accT h l).g t = (acc2 h l).g t.a := by cases h <;> cases l <;> rfl
theorem accT_s (h l : D8) (v : Option α) (t : Tr α) : (accT h l).s v t = some (Tr.mk ((acc2 h l).s v t.a) t.b t.c) := by cases t; cases h <;> cases l <;> rfl
theorem accA_s (n : Nat) (v : Option α) (t : Tr α) : (accA n).s v t = some (Tr.mk ((acc64 n).s v t.a) t.b t.c) := accT_s _ _ v t
def accB (k : Nat) : Acc α := Acc.mk (fun t => (acc64 (Nat.mod k 64)).g ((acc64 (Nat.div k 64)).g t.b)) (fun v t => @Tr.rec α (fun _ => Option (Tr α)) (fun a b c => some (Tr.mk a ((acc64 (Nat.div k 64)).s ((acc64 (Nat.mod k 64)).s v ((acc64 (Nat.div k 64)).g b)) b) c)) t)
def accC (k : Nat) : Acc α := Acc.mk (fun t => gC k t.c) (fun v t => @Tr.rec α (fun _ => Option (Tr α)) (fun a b c => some (Tr.mk a b (sC k v c))) t)
def accN : Acc α := Acc.mk (fun _ => none) (fun _ _ => none)
def acc (n : Nat) : Acc α := @Bool.rec (fun _ => Acc α) (@Bool.rec (fun _ => Acc α) (@Bool.rec (fun _ => Acc α) accN (accC (Nat.sub n 4160)) (Nat.blt n 266304)) (accB (Nat.sub n 64)) (Nat.blt n 4160)) (accA n) (Nat.blt n 64)
def Tr.nil : Tr α := Tr.mk (.all (.all none)) (.all (.all (.all (.all none)))) (.all (.all (.all (.all (.all (.all none))))))
def Tr.get (t : Tr α) (n : Nat) : Option α := (acc n).g t
def Tr.set (_ : Nat) (t : Tr α) (n : Nat) (v : Option α) : Option (Tr α) := (acc n).s v t
theorem acc_A {n : Nat} (h : n < 64) : (acc n : Acc α) = accA n := by
  unfold acc; rw [show Nat.blt n 64 = true from by simpa [Nat.blt_eq] using h]
theorem blt_no {n m : Nat} (h : ¬ n < m) : Nat.blt n m = false := by
  cases hb : Nat.blt n m with
  | false => rfl
  | true => exact absurd (by simpa [Nat.blt_eq] using hb) h
theorem acc_B {n : Nat} (h : ¬ n < 64) (h2 : n < 4160) : (acc n : Acc α) = accB (Nat.sub n 64) := by
  unfold acc; rw [blt_no h, show Nat.blt n 4160 = true from by simpa [Nat.blt_eq] using h2]
theorem acc_C {n : Nat} (h : ¬ n < 4160) (h2 : n < 266304) : (acc n : Acc α) = accC (Nat.sub n 4160) := by
  unfold acc; rw [blt_no (show ¬ n < 64 by omega), blt_no h, show Nat.blt n 266304 = true from by simpa [Nat.blt_eq] using h2]
theorem acc_N {n : Nat} (h : ¬ n < 266304) : (acc n : Acc α) = accN := by
  unfold acc; rw [blt_no (show ¬ n < 64 by omega), blt_no (show ¬ n < 4160 by omega), blt_no h]
theorem sel_all {β : Type} (i : D8) (x : β) : sel8 i (E8.all x) = x := by cases i <;> rfl
theorem acc64_all {β : Type} (n : Nat) (x : β) : (acc64 n).g (E8.all (E8.all x)) = x := by unfold acc64; rw [acc2_g, sel_all, sel_all]
theorem gB_all {β : Type} (n : Nat) (x : β) : gB n (E8.all (E8.all (E8.all (E8.all x)))) = x := by unfold gB; rw [acc64_all, acc64_all]
theorem accA_g (k : Nat) (t : Tr α) : (accA k).g t = (acc64 k).g t.a := accT_g _ _ t
theorem accB_g (k : Nat) (t : Tr α) : (accB k).g t = gB k t.b := rfl
theorem accC_g (k : Nat) (t : Tr α) : (accC k).g t = gC k t.c := rfl
theorem nil_a : (Tr.nil : Tr α).a = E8.all (E8.all none) := rfl
theorem nil_b : (Tr.nil : Tr α).b = E8.all (E8.all (E8.all (E8.all none))) := rfl
theorem nil_c : (Tr.nil : Tr α).c = E8.all (E8.all (E8.all (E8.all (E8.all (E8.all none))))) := rfl
theorem nil_A (n : Nat) : (accA n).g (Tr.nil : Tr α) = none := by rw [accA_g, nil_a, acc64_all]
theorem nil_B (n : Nat) : (accB n).g (Tr.nil : Tr α) = none := by rw [accB_g, nil_b, gB_all]
theorem nil_C (n : Nat) : (accC n).g (Tr.nil : Tr α) = none := by rw [accC_g, nil_c]; unfold gC; rw [gB_all, acc64_all]
theorem Tr.get_nil (n : Nat) : (Tr.nil : Tr α).get n = none := by
  unfold Tr.get
  by_cases h1 : n < 64
  · rw [acc_A h1, nil_A]
  by_cases h2 : n < 4160
  · rw [acc_B h1 h2, nil_B]
  by_cases h3 : n < 266304
  · rw [acc_C h2 h3, nil_C]
  · rw [acc_N h3]; rfl
theorem sub_lt64 {n : Nat} (h : n < 4160) : Nat.sub n 64 < 4096 := by have e : Nat.sub n 64 = n - 64 := Nat.sub_eq; rw [e]; omega
theorem sub_lt41 {n : Nat} (h : n < 266304) : Nat.sub n 4160 < 262144 := by have e : Nat.sub n 4160 = n - 4160 := Nat.sub_eq; rw [e]; omega
theorem sub_ne {n m k : Nat} (hn : ¬ n < k) (hm : ¬ m < k) (h : n ≠ m) : Nat.sub n k ≠ Nat.sub m k := by
  have e : Nat.sub n k = n - k := Nat.sub_eq
  have e2 : Nat.sub m k = m - k := Nat.sub_eq
  rw [e, e2]; omega
theorem Tr.get_set (f : Nat) (t t' : Tr α) (n : Nat) (v : Option α) (h : Tr.set f t n v = some t') (m : Nat) : t'.get m = if m = n then v else t.get m := by
  unfold Tr.set at h
  unfold Tr.get
  obtain ⟨a, b, c⟩ := t
  by_cases n1 : n < 64
  · rw [acc_A n1, accA_s] at h
    have h : some (Tr.mk ((acc64 n).s v a) b c) = some t' := h
    cases h
    by_cases e : m = n
    · subst e; rw [if_pos rfl, acc_A n1, accA_g]; exact acc64_same m v a
    · rw [if_neg e]
      by_cases m1 : m < 64
      · rw [acc_A m1, accA_g, accA_g]; exact acc64_ne m n m1 n1 e v a
      by_cases m2 : m < 4160
      · rw [acc_B m1 m2]; rfl
      by_cases m3 : m < 266304
      · rw [acc_C m2 m3]; rfl
      · rw [acc_N m3]; rfl
  by_cases n2 : n < 4160
  · rw [acc_B n1 n2] at h
    have h : some (Tr.mk a (sB (Nat.sub n 64) v b) c) = some t' := h
    cases h
    by_cases e : m = n
    · subst e; rw [if_pos rfl, acc_B n1 n2]; exact gB_same (Nat.sub m 64) v b
    · rw [if_neg e]
      by_cases m1 : m < 64
      · rw [acc_A m1, accA_g, accA_g]
      by_cases m2 : m < 4160
      · rw [acc_B m1 m2]; exact gB_ne (Nat.sub m 64) (Nat.sub n 64) (sub_lt64 m2) (sub_lt64 n2) (sub_ne m1 n1 e) v b
      by_cases m3 : m < 266304
      · rw [acc_C m2 m3]; rfl
      · rw [acc_N m3]; rfl
  by_cases n3 : n < 266304
  · rw [acc_C n2 n3] at h
    have h : some (Tr.mk a b (sC (Nat.sub n 4160) v c)) = some t' := h
    cases h
    by_cases e : m = n
    · subst e; rw [if_pos rfl, acc_C n2 n3]; exact gC_same (Nat.sub m 4160) v c
    · rw [if_neg e]
      by_cases m1 : m < 64
      · rw [acc_A m1, accA_g, accA_g]
      by_cases m2 : m < 4160
      · rw [acc_B m1 m2]; rfl
      by_cases m3 : m < 266304
      · rw [acc_C m2 m3]; exact gC_ne (Nat.sub m 4160) (Nat.sub n 4160) (sub_lt41 m3) (sub_lt41 n3) (sub_ne m2 n2 e) v c
      · rw [acc_N m3]; rfl
  · rw [acc_N n3] at h
    have h : (none : Option (Tr α)) = some t' := h
    cases h
def atNum {γ : Type} (n : Nat) (k : Nat → γ) : γ := @Nat.rec (fun _ => γ) (k 0) (fun m _ => k (Nat.succ m)) n
theorem atNum_eq {γ : Type} (n : Nat) (k : Nat → γ) : atNum n k = k n := by cases n <;> rfl
end
end Ev
end Go.Proofs.YtifoekadjnlhcaaGreatDoor
noncomputable section
namespace Go.Proofs.YtifoekadjnlhcaaGreatDoor
open Go.RowKit
set_option linter.unusedVariables false
set_option linter.unusedSimpArgs false
namespace Ev
def forceV {β : Type} : Value → (Value → β) → β :=
  @Value.rec (fun _ => (Value → β) → β) (fun _ => Unit) (fun _ => Unit)
    (fun b k => @Bool.rec (fun _ => β) (k (.bool false)) (k (.bool true)) b)
    (fun d n k => @Int.rec (fun _ => β) (fun m => @Nat.rec (fun _ => β) (k (.int d (.ofNat 0))) (fun m _ => k (.int d (.ofNat (Nat.succ m)))) m) (fun m => @Nat.rec (fun _ => β) (k (.int d (.negSucc 0))) (fun m _ => k (.int d (.negSucc (Nat.succ m)))) m) n)
    (fun d n k => k (.float d n)) (fun d n m k => k (.complex d n m)) (fun s k => k (.string s)) (fun a k => k (.pointer a)) (fun a n c k => k (.slice a n c)) (fun r k => k (.map r)) (fun r k => k (.chan r))
    (fun f p q _ _ k => k (.func f p q)) (fun k => k .nilFunc) (fun t v _ k => k (.iface t v)) (fun k => k .nilIface) (fun c _ k => k (.agg c)) (fun c _ k => k (.tuple c)) (fun _ _ => ()) () (fun _ _ _ _ => ())
def BIG : Nat := 18446744073709551616
structure Blk where
  blk : Nat
  base : Nat
  exc : Nat
structure Phi where
  at_ : Nat → Option Blk
  env : Nat → Option Value
def concA (φ : Phi) (a : Addr) : Option Addr :=
  match φ.at_ a.block with
  | none => none
  | some b => match a.spot with
    | none => some ⟨b.blk, b.base + a.off, none⟩
    | some sh => some ⟨b.blk, if b.exc = 0 then b.base + a.off else b.base + a.off + sh, none⟩
def tokLo (i : Nat) : Int := ((i / 65536 % 18446744073709551616 : Nat) : Int) - 9223372036854775808
def tokHi (i : Nat) : Int := ((i / 65536 / 18446744073709551616 : Nat) : Int) - 9223372036854775808
def tokOff (i : Nat) : Int := (i / 256 % 256 : Nat)
def i32At (env : Nat → Option Value) (i : Nat) : Option Int := match env i with
  | some (.int .i32 m) => some m
  | _ => none
def strLo (i : Nat) : Nat := i / 65536 % 4294967296
def strHi (i : Nat) : Nat := i / 65536 / 4294967296 % 18446744073709551616
def strB (i : Nat) : Nat := i / 65536 / 4294967296 / 18446744073709551616
def strOk (i : Nat) (s : ByteArray) : Prop :=
  strLo i ≤ s.size ∧ s.size ≤ strHi i ∧ (1 ≤ strB i → strB i ≤ 256 → ∀ b, s[0]? = some b → b.toNat = strB i - 1) ∧ (257 ≤ strB i → ∀ b, s[0]? = some b → b.toNat ≠ strB i - 257)
def strAt (env : Nat → Option Value) (i : Nat) : Option ByteArray := match env (i % 65536) with
  | some (.string s) => @ite _ (strOk i s) (Classical.propDecidable _) (some s) none
  | _ => none
theorem strAt_ok {env : Nat → Option Value} {i : Nat} {s : ByteArray} (h : strAt env i = some s) : strOk i s := by
  unfold strAt at h
  split at h
  · split at h
    · next hs => cases h; exact hs
    · cases h
  · cases h
def tok (env : Nat → Option Value) (n : Nat) : Option Value :=
  if n % 8 = 0 then env (n / 8)
  else if n % 8 = 1 then (i32At env (n / 8)).map fun m => .int .i32 m
  else if n % 8 = 2 then (i32At env (n / 8)).map fun m => .int .i64 (IntKind.i64.wrap m)
  else if n % 8 = 3 then match i32At env (n / 8 / 4294967296), i32At env (n / 8 % 4294967296) with
    | some a, some b => some (.int .i64 (IntKind.i64.wrap (IntKind.i64.wrap a + IntKind.i64.wrap b)))
    | _, _ => none
  else if n % 8 = 4 then match env (n / 8 % 256) with
    | some (.int .i64 m) => if tokLo (n / 8) ≤ m - tokOff (n / 8) ∧ m - tokOff (n / 8) ≤ tokHi (n / 8) then some (.int .i64 (m - tokOff (n / 8))) else none
    | _ => none
  else if n % 8 = 5 then (strAt env (n / 8)).map fun s => .string s
  else if n % 8 = 6 then (strAt env (n / 8)).map fun s => .int .i64 s.size
  else (strAt env (n / 8)).bind fun s => (s[0]?).map fun b => .int .u8 b.toNat
def tokKind (n : Nat) : Option IntKind := if n % 8 = 1 then some .i32 else if n % 8 = 2 then some .i64 else if n % 8 = 3 then some .i64 else if n % 8 = 4 then some .i64 else if n % 8 = 6 then some .i64 else if n % 8 = 7 then some .u8 else none
theorem tok_int {env : Nat → Option Value} {n : Nat} {k : IntKind} {X : Value} (h : tokKind n = some k) (hx : tok env n = some X) : ∃ m, X = .int k m := by
  unfold tokKind at h
  unfold tok at hx
  split at h
  · next h1 =>
    cases h
    rw [if_neg (by omega), if_pos h1] at hx
    cases hi : i32At env (n / 8) with
    | none => rw [hi] at hx; cases hx
    | some m => rw [hi] at hx; cases hx; exact ⟨m, rfl⟩
  · next n1 =>
    split at h
    · next h2 =>
      cases h
      rw [if_neg (by omega), if_neg n1, if_pos h2] at hx
      cases hi : i32At env (n / 8) with
      | none => rw [hi] at hx; cases hx
      | some m => rw [hi] at hx; cases hx; exact ⟨_, rfl⟩
    · next n2 =>
      split at h
      · next h3 =>
        cases h
        rw [if_neg (by omega), if_neg n1, if_neg n2, if_pos h3] at hx
        split at hx
        · cases hx; exact ⟨_, rfl⟩
        · cases hx
      · next n3 =>
        split at h
        · next h4 =>
          cases h
          rw [if_neg (by omega), if_neg n1, if_neg n2, if_neg n3, if_pos h4] at hx
          split at hx
          · split at hx
            · cases hx; exact ⟨_, rfl⟩
            · cases hx
          · cases hx
        · next n4 =>
          split at h
          · next h6 =>
            cases h
            rw [if_neg (by omega), if_neg n1, if_neg n2, if_neg n3, if_neg n4, if_neg (by omega), if_pos h6] at hx
            cases hi : strAt env (n / 8) with
            | none => rw [hi] at hx; cases hx
            | some m => rw [hi] at hx; cases hx; exact ⟨_, rfl⟩
          · next n6 =>
            split at h
            · next h7 =>
              cases h
              rw [if_neg (by omega), if_neg n1, if_neg n2, if_neg n3, if_neg n4, if_neg (by omega), if_neg n6] at hx
              cases hi : strAt env (n / 8) with
              | none => rw [hi] at hx; cases hx
              | some s =>
                rw [hi] at hx
                have hx : (s[0]?).map (fun b => Value.int .u8 b.toNat) = some X := hx
                cases hb : s[0]? with
                | none => rw [hb] at hx; cases hx
                | some b => rw [hb] at hx; cases hx; exact ⟨_, rfl⟩
            · cases h
theorem tok_str {env : Nat → Option Value} {n : Nat} {X : Value} (h : n % 8 = 5) (hx : tok env n = some X) : ∃ s, strOk (n / 8) s ∧ X = .string s ∧ strAt env (n / 8) = some s := by
  unfold tok at hx
  rw [if_neg (by omega), if_neg (by omega), if_neg (by omega), if_neg (by omega), if_neg (by omega), if_pos h] at hx
  cases hi : strAt env (n / 8) with
  | none => rw [hi] at hx; cases hx
  | some s => rw [hi] at hx; cases hx; exact ⟨s, strAt_ok hi, rfl, rfl⟩
theorem tok_len {env : Nat → Option Value} {n : Nat} {s : ByteArray} (h : n % 8 = 5) (hi : strAt env (n / 8) = some s) : tok env (n + 1) = some (.int .i64 s.size) := by
  unfold tok
  rw [if_neg (by omega), if_neg (by omega), if_neg (by omega), if_neg (by omega), if_neg (by omega), if_neg (by omega), if_pos (by omega), show (n + 1) / 8 = n / 8 by omega, hi]; rfl
theorem tok_first {env : Nat → Option Value} {n : Nat} {s : ByteArray} {b : UInt8} (h : n % 8 = 5) (hi : strAt env (n / 8) = some s) (hb : s[0]? = some b) : tok env (n + 2) = some (.int .u8 b.toNat) := by
  unfold tok
  rw [if_neg (by omega), if_neg (by omega), if_neg (by omega), if_neg (by omega), if_neg (by omega), if_neg (by omega), if_neg (by omega), show (n + 2) / 8 = n / 8 by omega, hi]
  show (s[0]?).map _ = _
  rw [hb]; rfl
def bLo (n : Nat) : Int := if n % 8 = 4 then tokLo (n / 8) else (strLo (n / 8) : Nat)
def bHi (n : Nat) : Int := if n % 8 = 4 then tokHi (n / 8) else (strHi (n / 8) : Nat)
theorem tok_rng {env : Nat → Option Value} {n : Nat} {X : Value} (h : n % 8 = 4 ∨ n % 8 = 6) (hx : tok env n = some X) : ∃ m, X = .int .i64 m ∧ bLo n ≤ m ∧ m ≤ bHi n := by
  unfold tok at hx
  unfold bLo bHi
  rcases h with h | h
  · rw [if_neg (by omega), if_neg (by omega), if_neg (by omega), if_neg (by omega), if_pos h] at hx
    rw [if_pos h, if_pos h]
    split at hx
    · split at hx
      · next hr => cases hx; exact ⟨_, rfl, hr⟩
      · cases hx
    · cases hx
  · rw [if_neg (by omega), if_neg (by omega), if_neg (by omega), if_neg (by omega), if_neg (by omega), if_neg (by omega), if_pos h] at hx
    rw [if_neg (by omega), if_neg (by omega)]
    cases hi : strAt env (n / 8) with
    | none => rw [hi] at hx; cases hx
    | some s =>
      rw [hi] at hx; cases hx
      obtain ⟨h1, h2, _⟩ := strAt_ok hi
      exact ⟨_, rfl, Int.ofNat_le.2 h1, Int.ofNat_le.2 h2⟩
theorem tok_conv {env : Nat → Option Value} {n : Nat} {X : Value} (h : n % 8 = 1) (hx : tok env n = some X) : ∃ m, X = .int .i32 m ∧ tok env (n + 1) = some (.int .i64 (IntKind.i64.wrap m)) := by
  unfold tok at hx
  rw [if_neg (by omega), if_pos h] at hx
  cases hi : i32At env (n / 8) with
  | none => rw [hi] at hx; cases hx
  | some m =>
    rw [hi] at hx; cases hx
    refine ⟨m, rfl, ?_⟩
    unfold tok
    rw [if_neg (by omega), if_neg (by omega), if_pos (by omega), show (n + 1) / 8 = n / 8 by omega, hi]; rfl
theorem tok_two {env : Nat → Option Value} {n : Nat} {X : Value} (h : n % 8 = 2) (hx : tok env n = some X) : ∃ m, i32At env (n / 8) = some m ∧ X = .int .i64 (IntKind.i64.wrap m) := by
  unfold tok at hx
  rw [if_neg (by omega), if_neg (by omega), if_pos h] at hx
  cases hi : i32At env (n / 8) with
  | none => rw [hi] at hx; cases hx
  | some m => rw [hi] at hx; cases hx; exact ⟨m, rfl, rfl⟩
def tokSum (n m : Nat) : Nat := (n / 8 * 4294967296 + m / 8) * 8 + 3
theorem tok_sum {env : Nat → Option Value} {n m : Nat} {X Y : Value} (hn : n % 8 = 2) (hm : m % 8 = 2) (hl : m / 8 < 4294967296) (hx : tok env n = some X) (hy : tok env m = some Y) :
    ∃ a b, X = .int .i64 a ∧ Y = .int .i64 b ∧ tok env (tokSum n m) = some (.int .i64 (IntKind.i64.wrap (a + b))) := by
  obtain ⟨a, h1, rfl⟩ := tok_two hn hx
  obtain ⟨b, h2, rfl⟩ := tok_two hm hy
  refine ⟨_, _, rfl, rfl, ?_⟩
  unfold tok tokSum
  rw [if_neg (by omega), if_neg (by omega), if_neg (by omega), if_pos (by omega), show ((n / 8 * 4294967296 + m / 8) * 8 + 3) / 8 / 4294967296 = n / 8 by omega, show ((n / 8 * 4294967296 + m / 8) * 8 + 3) / 8 % 4294967296 = m / 8 by omega, h1, h2]
def subI (i a : Nat) : Nat := i % 256 + 256 * (i / 256 % 256 + a) + 65536 * (i / 65536 % 18446744073709551616 - a + 18446744073709551616 * (i / 65536 / 18446744073709551616 - a))
def subTok (n a : Nat) : Nat := subI (n / 8) a * 8 + 4
theorem subI_parts {i a : Nat} (h1 : i / 256 % 256 + a < 256) (h2 : a ≤ i / 65536 % 18446744073709551616) :
    subI i a % 256 = i % 256 ∧ subI i a / 256 % 256 = i / 256 % 256 + a ∧ subI i a / 65536 % 18446744073709551616 = i / 65536 % 18446744073709551616 - a ∧ subI i a / 65536 / 18446744073709551616 = i / 65536 / 18446744073709551616 - a := by
  unfold subI
  have h3 := Nat.mod_lt (i / 65536) (show 0 < 18446744073709551616 by decide)
  generalize i / 65536 / 18446744073709551616 = H at *
  generalize i / 65536 % 18446744073709551616 = L at *
  have h4 : i % 256 < 256 := Nat.mod_lt _ (by decide)
  generalize i / 256 % 256 = O at *
  generalize i % 256 = D at *
  have e1 : D + 256 * (O + a) + 65536 * (L - a + 18446744073709551616 * (H - a)) = D + 256 * (O + a + 256 * (L - a + 18446744073709551616 * (H - a))) := by omega
  refine ⟨by omega, by omega, ?_, ?_⟩
  · rw [show (D + 256 * (O + a) + 65536 * (L - a + 18446744073709551616 * (H - a))) / 65536 = L - a + 18446744073709551616 * (H - a) by omega]; omega
  · rw [show (D + 256 * (O + a) + 65536 * (L - a + 18446744073709551616 * (H - a))) / 65536 = L - a + 18446744073709551616 * (H - a) by omega]; omega
theorem tok_sub {env : Nat → Option Value} {n a : Nat} {X : Value} (h4 : n % 8 = 4) (h1 : n / 8 / 256 % 256 + a < 256) (h2 : a ≤ n / 8 / 65536 % 18446744073709551616) (h3 : a ≤ n / 8 / 65536 / 18446744073709551616) (hx : tok env n = some X) :
    ∃ m, X = .int .i64 m ∧ tokLo (n / 8) ≤ m ∧ m ≤ tokHi (n / 8) ∧ tok env (subTok n a) = some (.int .i64 (m - a)) := by
  obtain ⟨p1, p2, p3, p4⟩ := subI_parts h1 h2
  unfold tok at hx
  rw [if_neg (by omega), if_neg (by omega), if_neg (by omega), if_neg (by omega), if_pos h4] at hx
  split at hx
  · next m he =>
    split at hx
    · next hr =>
      cases hx
      refine ⟨_, rfl, hr.1, hr.2, ?_⟩
      unfold tok
      have q8 : subTok n a % 8 = 4 := by unfold subTok; omega
      have qd : subTok n a / 8 = subI (n / 8) a := by unfold subTok; omega
      rw [if_neg (by omega), if_neg (by omega), if_neg (by omega), if_neg (by omega), if_pos q8, qd, p1, he]
      simp only []
      have hlo : tokLo (subI (n / 8) a) = tokLo (n / 8) - a := by unfold tokLo; rw [p3]; omega
      have hhi : tokHi (subI (n / 8) a) = tokHi (n / 8) - a := by unfold tokHi; rw [p4]; omega
      have hof : tokOff (subI (n / 8) a) = tokOff (n / 8) + a := by unfold tokOff; rw [p2]; omega
      rw [hlo, hhi, hof, if_pos (by omega), show m - (tokOff (n / 8) + (a : Int)) = m - tokOff (n / 8) - a by omega]
    · cases hx
  · cases hx
def tokSub (n : Nat) (a : Int) : Option Value :=
  match a with
  | .ofNat a => if n % 8 = 4 ∧ n / 8 / 256 % 256 + a < 256 ∧ a ≤ n / 8 / 65536 % 18446744073709551616 ∧ a ≤ n / 8 / 65536 / 18446744073709551616 ∧ tokHi (n / 8) ≤ 9223372036854775807 then some (.float .f64 (subTok n a)) else none
  | _ => none
def isSub : BinOp → Bool
  | .sub => true
  | _ => false
def tokInt (op : BinOp) (n : Nat) (a : Int) : Option Value := if isSub op = true then tokSub n a else none
def tokCmp (op : BinOp) (n : Nat) (a : Int) : Option Bool :=
  if n % 8 = 4 ∨ n % 8 = 6 then
    match op with
    | .lss => if bHi n < a then some true else if a ≤ bLo n then some false else none
    | .leq => if bHi n ≤ a then some true else if a < bLo n then some false else none
    | .gtr => if a < bLo n then some true else if bHi n ≤ a then some false else none
    | .geq => if a ≤ bLo n then some true else if bHi n < a then some false else none
    | .eql => if bHi n < a ∨ a < bLo n then some false else none
    | .neq => if bHi n < a ∨ a < bLo n then some true else none
    | _ => none
  else none
def flipOp : BinOp → BinOp
  | .lss => .gtr
  | .leq => .geq
  | .gtr => .lss
  | .geq => .leq
  | .eql => .eql
  | .neq => .neq
  | _ => .add
section
variable (t : TypeId) (k : IntKind) (a b : Int)
theorem cmp_eql : Go.binOp .eql t (.int k a) (.int k b) = .pure (.bool (decide (a = b))) := by simp [Go.binOp, Op.intCmp]; rfl
theorem cmp_neq : Go.binOp .neq t (.int k a) (.int k b) = .pure (.bool (!decide (a = b))) := by simp [Go.binOp, Op.intCmp]; rfl
theorem cmp_lss : Go.binOp .lss t (.int k a) (.int k b) = .pure (.bool (decide (a < b))) := by simp [Go.binOp, Op.intCmp]; rfl
theorem cmp_leq : Go.binOp .leq t (.int k a) (.int k b) = .pure (.bool (decide (a ≤ b))) := by simp [Go.binOp, Op.intCmp]; rfl
theorem cmp_gtr : Go.binOp .gtr t (.int k a) (.int k b) = .pure (.bool (decide (a > b))) := by simp [Go.binOp, Op.intCmp]; rfl
theorem cmp_geq : Go.binOp .geq t (.int k a) (.int k b) = .pure (.bool (decide (a ≥ b))) := by simp [Go.binOp, Op.intCmp]; rfl
theorem cmp_sub : Go.binOp .sub t (.int k a) (.int k b) = .pure (.int k (k.wrap (a - b))) := by simp [Go.binOp, Op.intArith]; rfl
theorem cmp_add : Go.binOp .add t (.int k a) (.int k b) = .pure (.int k (k.wrap (a + b))) := by simp [Go.binOp, Op.intArith]; rfl
end
theorem tokCmp_ok {env : Nat → Option Value} {op : BinOp} {n : Nat} {a : Int} {b : Bool} {X : Value} (h : tokCmp op n a = some b) (hx : tok env n = some X) (t : TypeId) : ∃ m, X = .int .i64 m ∧ Go.binOp op t (.int .i64 m) (.int .i64 a) = .pure (.bool b) := by
  unfold tokCmp at h
  split at h
  · next h4 =>
    obtain ⟨m, rfl, h1, h2⟩ := tok_rng h4 hx
    refine ⟨m, rfl, ?_⟩
    generalize bLo n = lo at *
    generalize bHi n = hi at *
    cases op <;> simp only [] at h <;> try (cases h; done)
    all_goals (first | rw [cmp_lss] | rw [cmp_leq] | rw [cmp_gtr] | rw [cmp_geq] | rw [cmp_eql] | rw [cmp_neq])
    all_goals (repeat' (split at h))
    all_goals (first | (cases h; done) | (cases h; rw [decide_eq_true (by omega)]; done) | (cases h; rw [decide_eq_false (by omega)]; done) | (cases h; rw [decide_eq_false (by omega)]; rfl))
  · cases h
theorem tokFlip_ok {env : Nat → Option Value} {op : BinOp} {n : Nat} {a : Int} {b : Bool} {X : Value} (h : tokCmp (flipOp op) n a = some b) (hx : tok env n = some X) (t : TypeId) : ∃ m, X = .int .i64 m ∧ Go.binOp op t (.int .i64 a) (.int .i64 m) = .pure (.bool b) := by
  unfold tokCmp at h
  split at h
  · next h4 =>
    obtain ⟨m, rfl, h1, h2⟩ := tok_rng h4 hx
    refine ⟨m, rfl, ?_⟩
    generalize bLo n = lo at *
    generalize bHi n = hi at *
    cases op <;> simp only [flipOp] at h <;> try (cases h; done)
    all_goals (first | rw [cmp_lss] | rw [cmp_leq] | rw [cmp_gtr] | rw [cmp_geq] | rw [cmp_eql] | rw [cmp_neq])
    all_goals (repeat' (split at h))
    all_goals (first | (cases h; done) | (cases h; rw [decide_eq_true (by omega)]; done) | (cases h; rw [decide_eq_false (by omega)]; done) | (cases h; rw [decide_eq_false (by omega)]; rfl))
  · cases h
def oneCell : Value → Bool
  | .agg _ => false
  | .tuple _ => false
  | _ => true
mutual
def conc (φ : Phi) : Value → Option Value
  | .pointer none => some (.pointer none)
  | .pointer (some a) => if a.spot.isSome then none else (concA φ a).map fun a => .pointer (some a)
  | .slice none len cap => some (.slice none len cap)
  | .slice (some a) len cap => match φ.at_ a.block, concA φ a with
    | some b, some a' => some (.slice (some a') len (if cap < BIG then cap else cap - BIG + b.exc))
    | _, _ => none
  | .map none => some (.map none)
  | .map (some r) => (φ.at_ r).map fun b => .map (some b.blk)
  | .chan none => some (.chan none)
  | .chan (some _) => none
  | .func (.func f) ⟨first⟩ ⟨captured⟩ => match concL φ first, concL φ captured with
    | some a, some b => some (.func (.func f) a.toArray b.toArray)
    | _, _ => none
  | .func _ _ _ => none
  | .iface t v => (conc φ v).map (.iface t)
  | .agg ⟨cs⟩ => (concL φ cs).map fun l => .agg l.toArray
  | .tuple ⟨vs⟩ => (concL φ vs).map fun l => .tuple l.toArray
  | .float .f64 n => match tok φ.env n with
    | some x => if oneCell x then some x else none
    | none => none
  | .float .f32 n => (φ.at_ n).map fun b => .func (.yield b.blk) #[] #[]
  | .complex _ _ _ => none
  | .bool b => some (.bool b)
  | .int k n => some (.int k n)
  | .string s => some (.string s)
  | .nilFunc => some .nilFunc
  | .nilIface => some .nilIface
def concL (φ : Phi) : List Value → Option (List Value)
  | [] => some []
  | v :: l => match conc φ v, concL φ l with
    | some x, some y => some (x :: y)
    | _, _ => none
end
def Phi.le (φ ψ : Phi) : Prop := (∀ n b, φ.at_ n = some b → ψ.at_ n = some b) ∧ φ.env = ψ.env
theorem Phi.le_refl (φ : Phi) : φ.le φ := ⟨fun _ _ h => h, rfl⟩
theorem Phi.le_trans {a b c : Phi} (h : a.le b) (k : b.le c) : a.le c := ⟨fun n x hx => k.1 n x (h.1 n x hx), h.2.trans k.2⟩
theorem concA_le {φ ψ : Phi} (h : φ.le ψ) {a x : Addr} (hx : concA φ a = some x) : concA ψ a = some x := by
  unfold concA at *
  cases ha : φ.at_ a.block with
  | none => rw [ha] at hx; cases hx
  | some b => rw [ha] at hx; rw [h.1 _ _ ha]; exact hx
mutual
theorem conc_le {φ ψ : Phi} (h : φ.le ψ) : ∀ (v x : Value), conc φ v = some x → conc ψ v = some x
  | .pointer none, x, hx => by simpa [conc] using hx
  | .pointer (some a), x, hx => by
    simp only [conc] at *
    split at hx
    · cases hx
    · next hs =>
      rw [if_neg hs]
      cases ha : concA φ a with
      | none => rw [ha] at hx; cases hx
      | some a' => rw [ha] at hx; rw [concA_le h ha]; exact hx
  | .slice none _ _, x, hx => by simpa [conc] using hx
  | .slice (some a) len cap, x, hx => by
    simp only [conc] at *
    cases hb : φ.at_ a.block with
    | none => rw [hb] at hx; simp at hx
    | some b =>
      cases ha : concA φ a with
      | none => rw [ha] at hx; rw [hb] at hx; simp at hx
      | some a' => rw [ha, hb] at hx; rw [concA_le h ha, h.1 _ _ hb]; exact hx
  | .map none, x, hx => by simpa [conc] using hx
  | .map (some r), x, hx => by
    simp only [conc] at *
    cases hb : φ.at_ r with
    | none => rw [hb] at hx; simp at hx
    | some b => rw [hb] at hx; rw [h.1 _ _ hb]; exact hx
  | .chan none, x, hx => by simpa [conc] using hx
  | .chan (some _), x, hx => by simp [conc] at hx
  | .func (.func f) ⟨first⟩ ⟨captured⟩, x, hx => by
    simp only [conc] at *
    cases h1 : concL φ first with
    | none => rw [h1] at hx; simp at hx
    | some a =>
      cases h2 : concL φ captured with
      | none => rw [h1, h2] at hx; simp at hx
      | some b => rw [h1, h2] at hx; rw [concL_le h _ _ h1, concL_le h _ _ h2]; exact hx
  | .func (.method _) _ _, x, hx => by simp [conc] at hx
  | .func (.methodOf _ _) _ _, x, hx => by simp [conc] at hx
  | .func (.via _ _ _ _) _ _, x, hx => by simp [conc] at hx
  | .func (.yield _) _ _, x, hx => by simp [conc] at hx
  | .iface t v, x, hx => by
    simp only [conc] at *
    cases h1 : conc φ v with
    | none => rw [h1] at hx; simp at hx
    | some a => rw [h1] at hx; rw [conc_le h _ _ h1]; exact hx
  | .agg ⟨cs⟩, x, hx => by
    simp only [conc] at *
    cases h1 : concL φ cs with
    | none => rw [h1] at hx; simp at hx
    | some a => rw [h1] at hx; rw [concL_le h _ _ h1]; exact hx
  | .tuple ⟨vs⟩, x, hx => by
    simp only [conc] at *
    cases h1 : concL φ vs with
    | none => rw [h1] at hx; simp at hx
    | some a => rw [h1] at hx; rw [concL_le h _ _ h1]; exact hx
  | .float .f64 n, x, hx => by simp only [conc] at *; rw [← h.2]; exact hx
  | .float .f32 n, x, hx => by
    simp only [conc] at *
    cases hb : φ.at_ n with
    | none => rw [hb] at hx; simp at hx
    | some b => rw [hb] at hx; rw [h.1 _ _ hb]; exact hx
  | .complex _ _ _, x, hx => by simp [conc] at hx
  | .bool b, x, hx => by simpa [conc] using hx
  | .int _ _, x, hx => by simpa [conc] using hx
  | .string _, x, hx => by simpa [conc] using hx
  | .nilFunc, x, hx => by simpa [conc] using hx
  | .nilIface, x, hx => by simpa [conc] using hx
theorem concL_le {φ ψ : Phi} (h : φ.le ψ) : ∀ (l x : List Value), concL φ l = some x → concL ψ l = some x
  | [], x, hx => by simpa [concL] using hx
  | v :: l, x, hx => by
    simp only [concL] at *
    cases h1 : conc φ v with
    | none => rw [h1] at hx; simp at hx
    | some a =>
      cases h2 : concL φ l with
      | none => rw [h1, h2] at hx; simp at hx
      | some b => rw [h1, h2] at hx; rw [conc_le h _ _ h1, concL_le h _ _ h2]; exact hx
end
theorem concL_len {φ : Phi} : ∀ {l x : List Value}, concL φ l = some x → x.length = l.length
  | [], x, h => by simp [concL] at h; subst h; rfl
  | v :: l, x, h => by
    simp only [concL] at h
    split at h
    · next a b h1 h2 => cases h; simp [concL_len h2]
    · cases h
theorem concL_get {φ : Phi} : ∀ {l x : List Value}, concL φ l = some x → ∀ (i : Nat) (v : Value), l[i]? = some v → ∃ y, x[i]? = some y ∧ conc φ v = some y
  | [], x, h, i, v, hv => by simp at hv
  | u :: l, x, h, i, v, hv => by
    simp only [concL] at h
    split at h
    · next a b h1 h2 =>
      cases h
      cases i with
      | zero => simp at hv; subst hv; exact ⟨a, rfl, h1⟩
      | succ i => simp at hv; simpa using concL_get h2 i v hv
    · cases h
theorem concL_of_get {φ : Phi} : ∀ {l x : List Value}, l.length = x.length → (∀ (i : Nat) (v : Value), l[i]? = some v → ∃ y, x[i]? = some y ∧ conc φ v = some y) → concL φ l = some x
  | [], x, hl, _ => by cases x with
    | nil => rfl
    | cons => simp at hl
  | v :: l, x, hl, h => by
    cases x with
    | nil => simp at hl
    | cons y x =>
      obtain ⟨y', h1, h2⟩ := h 0 v rfl
      simp at h1; subst h1
      simp only [concL, h2]
      rw [concL_of_get (by simpa using hl) (fun i u hu => by simpa using h (i + 1) u (by simpa using hu))]
end Ev
end Go.Proofs.YtifoekadjnlhcaaGreatDoor
noncomputable section
namespace Go.Proofs.YtifoekadjnlhcaaGreatDoor
open Go.RowKit
set_option linter.unusedVariables false
set_option linter.unusedSimpArgs false
namespace Ev
inductive AObj where
  | cells (l : List (Option Value)) (opn : Option Nat) (mate : Option Nat)
  | map (es : List (Value × Value × Nat)) (clock : Nat)
  | siter (s : ByteArray) (pos : Nat)
  | miter (m : Option Nat) (since : Nat) (seen : List Nat) (stepped : Nat)
  | typed (t : TypeId) (l : List Value) (room : Bool)
structure Heap where
  next : Nat
  tr : Tr AObj
def Heap.get (H : Heap) (id : Nat) : Option AObj := atNum id H.tr.get
theorem Heap.get_eq (H : Heap) (id : Nat) : H.get id = H.tr.get id := atNum_eq id H.tr.get
def AObj.mate : AObj → Option Nat
  | .cells _ _ m => m
  | _ => none
def entIn (φ : Phi) (e : Value × Value × Nat) (m : MapEntry) : Prop := conc φ e.1 = some m.key ∧ conc φ e.2.1 = some m.val ∧ e.2.2 = m.born
def objIs (φ : Phi) (o : AObj) (B : Blk) (c : Obj) : Prop :=
  match o with
  | .cells l opn _ => ∃ cs el fr, c = .cells cs el fr ∧ (fr.2 ≤ fr.1 ∨ cs.size ≤ fr.1) ∧
      (match opn with | some es => B.base + l.length + B.exc * es ≤ cs.size | none => B.base = 0 ∧ B.exc = 0 ∧ l.length = cs.size) ∧
      ∀ (i : Nat) (v : Value), l[i]? = some (some v) → ∃ x, cs[B.base + i]? = some x ∧ conc φ v = some x
  | .map es clock => ∃ en : Array MapEntry, c = .map en clock ∧ en.size = es.length ∧ ∀ (i : Nat) e, es[i]? = some e → ∃ m, en[i]? = some m ∧ entIn φ e m
  | .siter s pos => B.base = 0 ∧ c = .stringIter s pos
  | .miter none since seen stepped => B.base = 0 ∧ c = .mapIter none since seen.toArray stepped
  | .miter (some r) since seen stepped => B.base = 0 ∧ ∃ b, φ.at_ r = some b ∧ c = .mapIter (some b.blk) since seen.toArray stepped
  | .typed t l room => B.base = 0 ∧ (room = false → B.exc = 0) ∧ ∃ xs cs, c = .cells cs t (0, 0) ∧ concL φ l = some xs ∧ cs.size = l.length + B.exc ∧ cs.toList.take l.length = xs ∧ (room = true → cs.size ≤ maxLen)
theorem objIs_le {φ ψ : Phi} (h : φ.le ψ) {o : AObj} {B : Blk} {c : Obj} (hc : objIs φ o B c) : objIs ψ o B c := by
  cases o with
  | cells l opn mate =>
    obtain ⟨cs, el, fr, rfl, hf, hs, hv⟩ := hc
    exact ⟨cs, el, fr, rfl, hf, hs, fun i v hi => by obtain ⟨x, h1, h2⟩ := hv i v hi; exact ⟨x, h1, conc_le h _ _ h2⟩⟩
  | map es clock =>
    obtain ⟨en, rfl, hs, hv⟩ := hc
    exact ⟨en, rfl, hs, fun i e hi => by obtain ⟨m, h1, h2, h3, h4⟩ := hv i e hi; exact ⟨m, h1, conc_le h _ _ h2, conc_le h _ _ h3, h4⟩⟩
  | siter s pos => exact hc
  | miter m since seen stepped =>
    cases m with
    | none => exact hc
    | some r => obtain ⟨h0, b, h1, h2⟩ := hc; exact ⟨h0, b, h.1 _ _ h1, h2⟩
  | typed t l room =>
    obtain ⟨h0, hr, xs, cs, h1, h2, h3⟩ := hc
    exact ⟨h0, hr, xs, cs, h1, concL_le h _ _ h2, h3⟩
structure Rel (φ : Phi) (H : Heap) (w : World) : Prop where
  objs : ∀ id o B, H.get id = some o → φ.at_ id = some B → ∃ c, w.heap[B.blk]? = some c ∧ objIs φ o B c
  dom : ∀ id B, φ.at_ id = some B → id < H.next ∧ B.blk < w.heap.size
  alias : ∀ i j o p B C, H.get i = some o → H.get j = some p → φ.at_ i = some B → φ.at_ j = some C → B.blk = C.blk → i = j ∨ o.mate = some j
def Own (φ : Phi) (H : Heap) (b : Nat) : Prop := ∃ id o B, H.get id = some o ∧ φ.at_ id = some B ∧ B.blk = b
structure Step (φ : Phi) (H : Heap) (w : World) (φ' : Phi) (H' : Heap) (w' : World) : Prop where
  le : φ.le φ'
  new : ∀ id B, φ'.at_ id = some B → φ.at_ id = some B ∨ H.next ≤ id
  size : w.heap.size ≤ w'.heap.size
  keep : ∀ b, b < w.heap.size → ¬ Own φ H b → w'.heap[b]? = w.heap[b]?
  own : ∀ b, b < w.heap.size → Own φ' H' b → Own φ H b
  next : H.next ≤ H'.next
  tape : w'.tape = w.tape
  os : w'.os = w.os
  output : w'.output = w.output
theorem Step.refl (φ : Phi) (H : Heap) (w : World) : Step φ H w φ H w := ⟨Phi.le_refl φ, fun _ _ h => .inl h, Nat.le_refl _, fun _ _ _ => rfl, fun _ _ h => h, Nat.le_refl _, rfl, rfl, rfl⟩
theorem Step.trans {φ φ1 φ2 : Phi} {H H1 H2 : Heap} {w w1 w2 : World} (a : Step φ H w φ1 H1 w1) (b : Step φ1 H1 w1 φ2 H2 w2) : Step φ H w φ2 H2 w2 where
  le := Phi.le_trans a.le b.le
  new := fun id B h => by
    rcases b.new id B h with h | h
    · exact a.new id B h
    · exact .inr (Nat.le_trans a.next h)
  size := Nat.le_trans a.size b.size
  keep := fun k hk hn => by rw [b.keep k (Nat.lt_of_lt_of_le hk a.size) (fun h => hn (a.own k hk h)), a.keep k hk hn]
  own := fun k hk h => a.own k hk (b.own k (Nat.lt_of_lt_of_le hk a.size) h)
  next := Nat.le_trans a.next b.next
  tape := b.tape.trans a.tape
  os := b.os.trans a.os
  output := b.output.trans a.output
theorem Rel.heap {φ : Phi} {H : Heap} {w w' : World} (h : Rel φ H w) (e : w'.heap = w.heap) : Rel φ H w' := by
  refine ⟨fun id o B h1 h2 => ?_, fun id B h1 => ?_, h.alias⟩
  · rw [e]; exact h.objs id o B h1 h2
  · rw [e]; exact h.dom id B h1
theorem Step.heap {φ φ' : Phi} {H H' : Heap} {w w' w'' : World} (h : Step φ H w φ' H' w') (e : w''.heap = w'.heap) (t : w''.tape = w'.tape) (o : w''.os = w'.os) (p : w''.output = w'.output) : Step φ H w φ' H' w'' :=
  ⟨h.le, h.new, by rw [e]; exact h.size, fun b hb hn => by rw [e]; exact h.keep b hb hn, h.own, h.next, t.trans h.tape, o.trans h.os, p.trans h.output⟩
def addAt (H : Heap) (o : Option AObj) (n : Nat) : Option Heap := @Option.rec (Tr AObj) (fun _ => Option Heap) none (fun t => some ⟨Nat.succ n, t⟩) (Tr.set 40 H.tr n o)
def Heap.add (H : Heap) (o : AObj) : Option Heap := atNum H.next (addAt H (some o))
theorem Heap.add_eq (H : Heap) (o : AObj) : H.add o = (Tr.set 40 H.tr H.next (some o)).map fun t => ⟨H.next + 1, t⟩ := by
  unfold Heap.add; rw [atNum_eq]; unfold addAt; cases Tr.set 40 H.tr H.next (some o) <;> rfl
theorem Heap.add_get {H H' : Heap} {o : AObj} (h : H.add o = some H') (m : Nat) : H'.get m = if m = H.next then some o else H.get m := by
  rw [Heap.add_eq] at h; rw [Heap.get_eq, Heap.get_eq]
  cases hs : Tr.set 40 H.tr H.next (some o) with
  | none => rw [hs] at h; cases h
  | some t => rw [hs] at h; cases h; exact Tr.get_set _ _ _ _ _ hs m
theorem Heap.add_next {H H' : Heap} {o : AObj} (h : H.add o = some H') : H'.next = H.next + 1 := by
  rw [Heap.add_eq] at h
  cases hs : Tr.set 40 H.tr H.next (some o) with
  | none => rw [hs] at h; cases h
  | some t => rw [hs] at h; cases h; rfl
theorem Rel.phantom {φ : Phi} {H H' : Heap} {w : World} {o : AObj} (h : Rel φ H w) (ha : H.add o = some H') : Rel φ H' w ∧ φ.at_ H.next = none := by
  have hn : φ.at_ H.next = none := by
    cases hb : φ.at_ H.next with
    | none => rfl
    | some b => exact absurd (h.dom _ _ hb).1 (Nat.lt_irrefl _)
  refine ⟨⟨fun id o' B h1 h2 => ?_, fun id B h1 => ?_, fun i j o p B C hi hj bi bj e => ?_⟩, hn⟩
  · rw [Heap.add_get ha] at h1
    split at h1
    · next he => subst he; rw [hn] at h2; cases h2
    · exact h.objs id o' B h1 h2
  · have := h.dom id B h1
    rw [Heap.add_next ha]; exact ⟨by omega, this.2⟩
  · rw [Heap.add_get ha] at hi hj
    split at hi
    · next he => subst he; rw [hn] at bi; cases bi
    · split at hj
      · next he => subst he; rw [hn] at bj; cases bj
      · exact h.alias i j o p B C hi hj bi bj e
def Phi.put (φ : Phi) (id : Nat) (B : Blk) : Phi := ⟨fun n => if n = id then some B else φ.at_ n, φ.env⟩
theorem Phi.le_put {φ : Phi} {id : Nat} {B : Blk} (h : φ.at_ id = none) : φ.le (φ.put id B) := by
  refine ⟨fun n b hb => ?_, rfl⟩
  show (if n = id then some B else φ.at_ n) = some b
  split
  · next e => subst e; rw [h] at hb; cases hb
  · exact hb
theorem Phi.put_at (φ : Phi) (id : Nat) (B : Blk) : (φ.put id B).at_ id = some B := if_pos rfl
theorem Phi.put_ne {φ : Phi} {id n : Nat} {B : Blk} (h : n ≠ id) : (φ.put id B).at_ n = φ.at_ n := if_neg h
def pushW (w : World) (o : Obj) (n : Nat) : World := { w with heap := w.heap.push o, drawn := n }
theorem Rel.born {φ : Phi} {H : Heap} {w : World} {id : Nat} {o : AObj} {c : Obj} {e : Nat} {n : Nat} (h : Rel φ H w) (hn : φ.at_ id = none) (hlt : id < H.next) (hg : H.get id = some o)
    (hc : objIs φ o ⟨w.heap.size, 0, e⟩ c) : Rel (φ.put id ⟨w.heap.size, 0, e⟩) H (pushW w c n) := by
  have hle := Phi.le_put (B := ⟨w.heap.size, 0, e⟩) hn
  refine ⟨fun i o' B h1 h2 => ?_, fun i B h1 => ?_, fun i j o1 p B C hi hj bi bj he => ?_⟩
  · by_cases hi : i = id
    · subst hi
      rw [Phi.put_at] at h2; cases h2
      rw [hg] at h1; cases h1
      exact ⟨c, by simp [pushW], objIs_le hle hc⟩
    · rw [Phi.put_ne hi] at h2
      obtain ⟨c', h3, h4⟩ := h.objs i o' B h1 h2
      exact ⟨c', by have := (h.dom i B h2).2; simp [pushW, Array.getElem?_push]; rw [if_neg (by omega)]; exact h3, objIs_le hle h4⟩
  · by_cases hi : i = id
    · subst hi; rw [Phi.put_at] at h1; cases h1; exact ⟨hlt, by simp [pushW]⟩
    · rw [Phi.put_ne hi] at h1
      have := h.dom i B h1
      exact ⟨this.1, by simp [pushW]; omega⟩
  · by_cases h1 : i = id
    · by_cases h2 : j = id
      · exact .inl (h1.trans h2.symm)
      · subst h1; rw [Phi.put_at] at bi; cases bi
        rw [Phi.put_ne h2] at bj
        have := (h.dom j C bj).2
        simp at he; omega
    · rw [Phi.put_ne h1] at bi
      by_cases h2 : j = id
      · subst h2; rw [Phi.put_at] at bj; cases bj
        have := (h.dom i B bi).2
        simp at he; omega
      · rw [Phi.put_ne h2] at bj
        exact h.alias i j o1 p B C hi hj bi bj he
theorem Step.born {φ : Phi} {H : Heap} {w : World} {id : Nat} {c : Obj} {e : Nat} {n : Nat} (hn : φ.at_ id = none) (hdom : ∀ i B, φ.at_ i = some B → B.blk < w.heap.size) :
    (∀ b, b < w.heap.size → (pushW w c n).heap[b]? = w.heap[b]?) ∧ (∀ b, b < w.heap.size → Own (φ.put id ⟨w.heap.size, 0, e⟩) H b → Own φ H b) := by
  refine ⟨fun b hb => by simp [pushW, Array.getElem?_push]; intro h; omega, fun b hb ho => ?_⟩
  obtain ⟨i, o, B, h1, h2, h3⟩ := ho
  by_cases hi : i = id
  · subst hi; rw [Phi.put_at] at h2; cases h2; simp at h3; omega
  · rw [Phi.put_ne hi] at h2; exact ⟨i, o, B, h1, h2, h3⟩
theorem new_block {φ : Phi} {H H' : Heap} {w : World} {o : AObj} {c : Obj} {e n : Nat} (h : Rel φ H w) (ha : H.add o = some H') (hc : objIs φ o ⟨w.heap.size, 0, e⟩ c) :
    ∃ φ', φ'.at_ H.next = some ⟨w.heap.size, 0, e⟩ ∧ Rel φ' H' (pushW w c n) ∧ Step φ H w φ' H' (pushW w c n) := by
  obtain ⟨h1, hn⟩ := h.phantom ha
  refine ⟨_, Phi.put_at _ _ _, h1.born hn (by rw [Heap.add_next ha]; omega) (by rw [Heap.add_get ha, if_pos rfl]) hc, ?_⟩
  have hb := Step.born (H := H') (c := c) (e := e) (n := n) hn (fun i B hi => (h1.dom i B hi).2)
  refine ⟨Phi.le_put hn, fun id B hB => ?_, by simp [pushW], fun b hb' _ => hb.1 b hb', fun b hb' ho => ?_, by rw [Heap.add_next ha]; omega, rfl, rfl, rfl⟩
  · by_cases hi : id = H.next
    · subst hi; exact .inr (Nat.le_refl _)
    · rw [Phi.put_ne hi] at hB; exact .inl hB
  · obtain ⟨i, o', B, g1, g2, g3⟩ := hb.2 b hb' ho
    rw [Heap.add_get ha] at g1
    split at g1
    · next he => subst he; rw [hn] at g2; cases g2
    · exact ⟨i, o', B, g1, g2, g3⟩
end Ev
end Go.Proofs.YtifoekadjnlhcaaGreatDoor
noncomputable section
namespace Go.Proofs.YtifoekadjnlhcaaGreatDoor
open Go.RowKit
set_option linter.unusedVariables false
set_option linter.unusedSimpArgs false
namespace Ev
theorem run_bind {α β : Type} (P : Program) (s : Sem α) (f : α → Sem β) : ∀ w, (s >>= f).run P w = match s.run P w with | .ok a w' => (f a).run P w' | .halt h w' => .halt h w' := by
  show ∀ w, (Sem.bind s f).run P w = _
  induction s with
  | pure a => intro w; rfl
  | load m a k ih =>
    intro w
    simp only [Sem.bind, Sem.run]
    cases w.cell? a with
    | some v => exact ih v w
    | none =>
      simp only []
      cases w.farLoad P a (m == .atomic) with
      | ok r => exact ih _ w
      | error e => rfl
  | store m a v k ih =>
    intro w
    cases v <;> simp only [Sem.bind, Sem.run] <;> (try rfl)
    all_goals
      cases w.cell? a with
      | some u =>
        simp only []
        split
        · rfl
        · exact ih _
      | none =>
        simp only []
        split
        · exact ih _
        · rfl
  | new o k ih => intro w; simp only [Sem.bind, Sem.run]; exact ih _ _
  | shape r k ih => intro w; simp only [Sem.bind, Sem.run]; exact ih _ _
  | freeze a n k ih => intro w; simp only [Sem.bind, Sem.run]; exact ih _
  | frozen a k ih => intro w; simp only [Sem.bind, Sem.run]; exact ih _ _
  | getObj r k ih =>
    intro w
    simp only [Sem.bind, Sem.run]
    cases hr : w.heap[r]? with
    | none => simp only []
    | some o => cases o <;> simp only [] <;> first | rfl | exact ih _ _
  | setObj r o k ih =>
    intro w
    simp only [Sem.bind, Sem.run]
    cases hr : w.heap[r]? with
    | none => simp only []
    | some o => cases o <;> simp only [] <;> first | rfl | exact ih _
  | choose q k ih => intro w; simp only [Sem.bind, Sem.run]; split <;> exact ih _ _
  | sys c k ih => intro w; simp only [Sem.bind, Sem.run]; exact ih _ _
  | program k ih => intro w; simp only [Sem.bind, Sem.run]; exact ih _ _
  | mark m k ih => intro w; simp only [Sem.bind, Sem.run]; exact ih _
  | halt h => intro w; rfl
theorem run_pure {α : Type} (P : Program) (a : α) (w : World) : (pure a : Sem α).run P w = .ok a w := rfl
theorem bind_ok {α β : Type} {P : Program} {s : Sem α} {f : α → Sem β} {w w' : World} {a : α} (h : s.run P w = .ok a w') : (s >>= f).run P w = (f a).run P w' := by rw [run_bind, h]
theorem add_off (b o i : Nat) : (⟨b, o, none⟩ : Addr).add i = ⟨b, o + i, none⟩ := by
  unfold Addr.add
  split
  · next h => rw [h]; rfl
  · rfl
theorem cell_of {w : World} {b : Nat} {cs : Array Value} {el : TypeId} {fr : Nat × Nat} (h : w.heap[b]? = some (.cells cs el fr)) (i : Nat) : w.cell? ⟨b, i, none⟩ = cs[i]? := by
  simp [World.cell?, h]
theorem load_run {P : Program} {w : World} {a : Addr} {v : Value} (h : w.cell? a = some v) : (load a).run P w = .ok v w := by
  unfold load
  simp only [Sem.run, h]
theorem loadFrom_run {P : Program} {w : World} {b o : Nat} {cs : Array Value} {el : TypeId} {fr : Nat × Nat} (h : w.heap[b]? = some (.cells cs el fr)) : ∀ (n i : Nat) (acc : Array Value), o + i + n ≤ cs.size →
    (loadCellsFrom ⟨b, o, none⟩ i n acc).run P w = .ok (acc ++ cs.extract (o + i) (o + i + n)) w
  | 0, i, acc, _ => by
    unfold loadCellsFrom
    rw [run_pure]; congr 1
    apply Array.ext_getElem?; intro j; simp only [Array.getElem?_append]
    split
    · rfl
    · next h => rw [Array.getElem?_eq_none (by omega), Array.getElem?_eq_none (by simp; omega)]
  | n + 1, i, acc, hn => by
    unfold loadCellsFrom
    have hc : w.cell? ((⟨b, o, none⟩ : Addr).add i) = some cs[o + i] := by rw [add_off, cell_of h, Array.getElem?_eq_getElem (by omega)]
    rw [bind_ok (load_run hc), loadFrom_run h n (i + 1) _ (by omega)]
    congr 1
    apply Array.ext_getElem?
    intro j
    simp only [Array.getElem?_append, Array.getElem?_push, Array.size_push, Array.getElem?_extract]
    by_cases h1 : j < acc.size
    · simp [h1, show j < acc.size + 1 by omega, show j ≠ acc.size by omega]
    · by_cases h2 : j = acc.size
      · subst h2; simp [show o + i < o + i + (n + 1) by omega, show min (o + i + (n + 1)) cs.size - (o + i) ≠ 0 by omega]
        omega
      · have h3 : ¬ j < acc.size + 1 := by omega
        simp only [h1, h2, h3, if_false]
        by_cases h4 : j - (acc.size + 1) < min (o + (i + 1) + n) cs.size - (o + (i + 1))
        · rw [if_pos h4, if_pos (by omega)]; congr 1; omega
        · rw [if_neg h4, if_neg (by omega)]
theorem loadCells_run {P : Program} {w : World} {b o n : Nat} {cs : Array Value} {el : TypeId} {fr : Nat × Nat} (h : w.heap[b]? = some (.cells cs el fr)) (hn : o + n ≤ cs.size) :
    (loadCells ⟨b, o, none⟩ n).run P w = .ok (cs.extract o (o + n)) w := by
  unfold loadCells
  rw [loadFrom_run h n 0 #[] (by omega)]
  simp
def putL (c : Array Value) : Nat → List Value → Array Value
  | _, [] => c
  | k, x :: xs => putL (c.setIfInBounds k x) (k + 1) xs
theorem putL_size : ∀ (xs : List Value) (c : Array Value) (k : Nat), (putL c k xs).size = c.size
  | [], c, k => rfl
  | x :: xs, c, k => by rw [putL, putL_size xs]; simp
theorem putL_get : ∀ (xs : List Value) (c : Array Value) (k i : Nat), k + xs.length ≤ c.size → (putL c k xs)[i]? = if k ≤ i ∧ i < k + xs.length then xs[i - k]? else c[i]?
  | [], c, k, i, _ => by rw [putL, if_neg (by simp)]
  | x :: xs, c, k, i, h => by
    simp only [List.length_cons] at h ⊢
    rw [putL, putL_get xs _ _ _ (by simp; omega), Array.getElem?_setIfInBounds]
    by_cases h1 : i = k
    · subst h1
      rw [if_neg (by omega), if_pos rfl, if_pos (by omega), if_pos (by omega)]; simp
    · by_cases h2 : k + 1 ≤ i ∧ i < k + 1 + xs.length
      · rw [if_pos h2, if_pos (by omega)]
        obtain ⟨j, rfl⟩ : ∃ j, i = k + 1 + j := ⟨i - (k + 1), by omega⟩
        rw [show k + 1 + j - (k + 1) = j by omega, show k + 1 + j - k = j + 1 by omega, List.getElem?_cons_succ]
      · rw [if_neg h2, if_neg (by omega), if_neg (by omega)]
def putO (k : Nat) (xs : List Value) : Obj → Obj
  | .cells c el fr => .cells (putL c k xs) el fr
  | o => o
def putW (w : World) (b : Nat) (k : Nat) (xs : List Value) : World := { w with heap := w.heap.modify b (putO k xs) }
theorem putW_nil (w : World) (b k : Nat) : putW w b k [] = w := by
  have : w.heap.modify b (putO k []) = w.heap := by
    apply Array.ext_getElem?
    intro i
    rw [Array.getElem?_modify]
    split
    · cases h : w.heap[i]? with
      | none => rfl
      | some o => cases o <;> rfl
    · rfl
  unfold putW; rw [this]
theorem modify_modify {α : Type} (a : Array α) (b : Nat) (f g : α → α) : (a.modify b f).modify b g = a.modify b (g ∘ f) := by
  apply Array.ext_getElem?
  intro i
  simp only [Array.getElem?_modify]
  split
  · cases a[i]? <;> rfl
  · rfl
theorem putW_cons (w : World) (b k : Nat) (x : Value) (xs : List Value) : putW (w.setCell ⟨b, k, none⟩ x) b (k + 1) xs = putW w b k (x :: xs) := by
  unfold putW World.setCell
  simp only [modify_modify]
  congr 2
  funext o
  cases o <;> simp [putL, putO]
theorem store_run {P : Program} {w : World} {a : Addr} {v u : Value} (hv : oneCell v = true) (h : w.cell? a = some u) (hf : w.frozen? a = false) : (store a v).run P w = .ok () (w.setCell a v) := by
  unfold store
  cases v <;> simp [oneCell] at hv <;> simp [Sem.run, h, hf]
theorem storeCells_run {P : Program} {b o : Nat} : ∀ (xs : List Value) (i : Nat) (w : World) (cs : Array Value) (el : TypeId) (fr : Nat × Nat), w.heap[b]? = some (.cells cs el fr) → (fr.2 ≤ fr.1 ∨ cs.size ≤ fr.1) →
    (∀ x ∈ xs, oneCell x = true) → o + i + xs.length ≤ cs.size → (storeCells ⟨b, o, none⟩ xs i).run P w = .ok () (putW w b (o + i) xs)
  | [], i, w, cs, el, fr, h, hf, hx, hn => by unfold storeCells; rw [putW_nil]; rfl
  | x :: xs, i, w, cs, el, fr, h, hf, hx, hn => by
    simp only [List.length_cons] at hn
    unfold storeCells
    have hc : w.cell? ((⟨b, o, none⟩ : Addr).add i) = some cs[o + i] := by rw [add_off, cell_of h, Array.getElem?_eq_getElem (by omega)]
    have hz : w.frozen? ((⟨b, o, none⟩ : Addr).add i) = false := by
      rw [add_off]; simp only [World.frozen?, h]
      rcases hf with hf | hf <;> simp <;> omega
    rw [bind_ok (store_run (hx x (by simp)) hc hz), add_off]
    have h' : (w.setCell ⟨b, o + i, none⟩ x).heap[b]? = some (.cells (cs.setIfInBounds (o + i) x) el fr) := by
      simp [World.setCell, Array.getElem?_modify, h]
    rw [storeCells_run xs (i + 1) _ _ _ _ h' (by simpa using hf) (fun y hy => hx y (by simp [hy])) (by simp; omega), show o + (i + 1) = o + i + 1 by omega, putW_cons]
theorem putW_at {w : World} {b k : Nat} {xs : List Value} {cs : Array Value} {el : TypeId} {fr : Nat × Nat} (h : w.heap[b]? = some (.cells cs el fr)) : (putW w b k xs).heap[b]? = some (.cells (putL cs k xs) el fr) := by
  simp [putW, Array.getElem?_modify, h, putO]
theorem putW_ne {w : World} {b k i : Nat} {xs : List Value} (h : i ≠ b) : (putW w b k xs).heap[i]? = w.heap[i]? := by
  simp [putW, Array.getElem?_modify]; intro e; exact absurd e.symm h
theorem putW_size (w : World) (b k : Nat) (xs : List Value) : (putW w b k xs).heap.size = w.heap.size := by simp [putW]
theorem oneCell_conc {φ : Phi} {v x : Value} (hv : oneCell v = true) (h : conc φ v = some x) : oneCell x = true := by
  cases v <;> simp [oneCell] at hv
  case pointer a => cases a with
    | none => simp [conc] at h; subst h; rfl
    | some a =>
      simp only [conc] at h
      split at h
      · cases h
      · cases ha : concA φ a with
        | none => rw [ha] at h; cases h
        | some y => rw [ha] at h; cases h; rfl
  case slice a n c => cases a with
    | none => simp [conc] at h; subst h; rfl
    | some a =>
      simp only [conc] at h
      split at h
      · cases h; rfl
      · cases h
  case map r => cases r with
    | none => simp [conc] at h; subst h; rfl
    | some r =>
      simp only [conc] at h
      cases ha : φ.at_ r with
      | none => rw [ha] at h; cases h
      | some y => rw [ha] at h; cases h; rfl
  case chan r => cases r with
    | none => simp [conc] at h; subst h; rfl
    | some r => simp [conc] at h
  case func fn a b =>
    obtain ⟨a⟩ := a; obtain ⟨b⟩ := b
    cases fn <;> simp only [conc] at h <;> try cases h
    split at h
    · cases h; rfl
    · cases h
  case iface t v =>
    simp only [conc] at h
    cases ha : conc φ v with
    | none => rw [ha] at h; cases h
    | some y => rw [ha] at h; cases h; rfl
  case float k n =>
    cases k with
    | f64 =>
      simp only [conc] at h
      split at h
      · split at h
        · next hx => cases h; exact hx
        · cases h
      · cases h
    | f32 =>
      simp only [conc] at h
      cases hb : φ.at_ n with
      | none => rw [hb] at h; cases h
      | some b => rw [hb] at h; cases h; rfl
  all_goals (simp [conc] at h; try (subst h; rfl))
end Ev
end Go.Proofs.YtifoekadjnlhcaaGreatDoor
