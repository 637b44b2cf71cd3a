/- THE ENGINE, 0: a table that holds things by number. Each number has its accessor, a closed term that the kernel reduces once. (Printed by gen/trk.py.) -/
import Derived.Test.YtepdkcikkemieaaGreatLib
noncomputable section
namespace Go.Proofs.YtepdkcikkemieaaGreat
set_option linter.unusedVariables false
namespace Ev
inductive D8 where | d0 | d1 | d2 | d3 | d4 | d5 | d6 | d7
structure E8 (β : Type) where
  (c0 c1 c2 c3 c4 c5 c6 c7 : β)
section
variable {β : Type}
def E8.all (x : β) : E8 β := ⟨x, x, x, x, x, x, x, x⟩
def sel8 (d : D8) : E8 β → β := @D8.rec (fun _ => E8 β → β) (fun t => t.c0) (fun t => t.c1) (fun t => t.c2) (fun t => t.c3) (fun t => t.c4) (fun t => t.c5) (fun t => t.c6) (fun t => t.c7) d
def put8 (d : D8) : β → E8 β → E8 β := @D8.rec (fun _ => β → E8 β → E8 β) (fun v t => @E8.rec β (fun _ => E8 β) (fun a0 a1 a2 a3 a4 a5 a6 a7 => E8.mk v a1 a2 a3 a4 a5 a6 a7) t) (fun v t => @E8.rec β (fun _ => E8 β) (fun a0 a1 a2 a3 a4 a5 a6 a7 => E8.mk a0 v a2 a3 a4 a5 a6 a7) t) (fun v t => @E8.rec β (fun _ => E8 β) (fun a0 a1 a2 a3 a4 a5 a6 a7 => E8.mk a0 a1 v a3 a4 a5 a6 a7) t) (fun v t => @E8.rec β (fun _ => E8 β) (fun a0 a1 a2 a3 a4 a5 a6 a7 => E8.mk a0 a1 a2 v a4 a5 a6 a7) t) (fun v t => @E8.rec β (fun _ => E8 β) (fun a0 a1 a2 a3 a4 a5 a6 a7 => E8.mk a0 a1 a2 a3 v a5 a6 a7) t) (fun v t => @E8.rec β (fun _ => E8 β) (fun a0 a1 a2 a3 a4 a5 a6 a7 => E8.mk a0 a1 a2 a3 a4 v a6 a7) t) (fun v t => @E8.rec β (fun _ => E8 β) (fun a0 a1 a2 a3 a4 a5 a6 a7 => E8.mk a0 a1 a2 a3 a4 a5 v a7) t) (fun v t => @E8.rec β (fun _ => E8 β) (fun a0 a1 a2 a3 a4 a5 a6 a7 => E8.mk a0 a1 a2 a3 a4 a5 a6 v) t) d
def num8 (d : D8) : Nat := @D8.rec (fun _ => Nat) 0 1 2 3 4 5 6 7 d
def dig8 (n : Nat) : D8 := @Nat.rec (fun _ => D8) .d0 (fun n _ => @Nat.rec (fun _ => D8) .d1 (fun n _ => @Nat.rec (fun _ => D8) .d2 (fun n _ => @Nat.rec (fun _ => D8) .d3 (fun n _ => @Nat.rec (fun _ => D8) .d4 (fun n _ => @Nat.rec (fun _ => D8) .d5 (fun n _ => @Nat.rec (fun _ => D8) .d6 (fun n _ => .d7) n) n) n) n) n) n) n
theorem num_dig (n : Nat) (h : n < 8) : num8 (dig8 n) = n := by
  match n, h with
  | 0, _ => rfl
  | 1, _ => rfl
  | 2, _ => rfl
  | 3, _ => rfl
  | 4, _ => rfl
  | 5, _ => rfl
  | 6, _ => rfl
  | 7, _ => rfl
theorem sel_put_same (i : D8) (v : β) (t : E8 β) : sel8 i (put8 i v t) = v := by cases t; cases i <;> rfl
theorem sel_put_ne (i j : D8) (v : β) (t : E8 β) (h : num8 i ≠ num8 j) : sel8 i (put8 j v t) = sel8 i t := by cases t; cases i <;> cases j <;> first | rfl | exact absurd rfl h
structure Acc2 (β : Type) where
  g : E8 (E8 β) → β
  s : β → E8 (E8 β) → E8 (E8 β)
def acc2 (h l : D8) : Acc2 β := @D8.rec (fun _ => Acc2 β)
  (@D8.rec (fun _ => Acc2 β)
    (Acc2.mk (fun t => t.c0.c0) (fun v t => @E8.rec (E8 β) (fun _ => E8 (E8 β)) (fun a0 a1 a2 a3 a4 a5 a6 a7 => E8.mk (@E8.rec β (fun _ => E8 β) (fun b0 b1 b2 b3 b4 b5 b6 b7 => E8.mk v b1 b2 b3 b4 b5 b6 b7) a0) a1 a2 a3 a4 a5 a6 a7) t))
    (Acc2.mk (fun t => t.c0.c1) (fun v t => @E8.rec (E8 β) (fun _ => E8 (E8 β)) (fun a0 a1 a2 a3 a4 a5 a6 a7 => E8.mk (@E8.rec β (fun _ => E8 β) (fun b0 b1 b2 b3 b4 b5 b6 b7 => E8.mk b0 v b2 b3 b4 b5 b6 b7) a0) a1 a2 a3 a4 a5 a6 a7) t))
    (Acc2.mk (fun t => t.c0.c2) (fun v t => @E8.rec (E8 β) (fun _ => E8 (E8 β)) (fun a0 a1 a2 a3 a4 a5 a6 a7 => E8.mk (@E8.rec β (fun _ => E8 β) (fun b0 b1 b2 b3 b4 b5 b6 b7 => E8.mk b0 b1 v b3 b4 b5 b6 b7) a0) a1 a2 a3 a4 a5 a6 a7) t))
    (Acc2.mk (fun t => t.c0.c3) (fun v t => @E8.rec (E8 β) (fun _ => E8 (E8 β)) (fun a0 a1 a2 a3 a4 a5 a6 a7 => E8.mk (@E8.rec β (fun _ => E8 β) (fun b0 b1 b2 b3 b4 b5 b6 b7 => E8.mk b0 b1 b2 v b4 b5 b6 b7) a0) a1 a2 a3 a4 a5 a6 a7) t))
    (Acc2.mk (fun t => t.c0.c4) (fun v t => @E8.rec (E8 β) (fun _ => E8 (E8 β)) (fun a0 a1 a2 a3 a4 a5 a6 a7 => E8.mk (@E8.rec β (fun _ => E8 β) (fun b0 b1 b2 b3 b4 b5 b6 b7 => E8.mk b0 b1 b2 b3 v b5 b6 b7) a0) a1 a2 a3 a4 a5 a6 a7) t))
    (Acc2.mk (fun t => t.c0.c5) (fun v t => @E8.rec (E8 β) (fun _ => E8 (E8 β)) (fun a0 a1 a2 a3 a4 a5 a6 a7 => E8.mk (@E8.rec β (fun _ => E8 β) (fun b0 b1 b2 b3 b4 b5 b6 b7 => E8.mk b0 b1 b2 b3 b4 v b6 b7) a0) a1 a2 a3 a4 a5 a6 a7) t))
    (Acc2.mk (fun t => t.c0.c6) (fun v t => @E8.rec (E8 β) (fun _ => E8 (E8 β)) (fun a0 a1 a2 a3 a4 a5 a6 a7 => E8.mk (@E8.rec β (fun _ => E8 β) (fun b0 b1 b2 b3 b4 b5 b6 b7 => E8.mk b0 b1 b2 b3 b4 b5 v b7) a0) a1 a2 a3 a4 a5 a6 a7) t))
    (Acc2.mk (fun t => t.c0.c7) (fun v t => @E8.rec (E8 β) (fun _ => E8 (E8 β)) (fun a0 a1 a2 a3 a4 a5 a6 a7 => E8.mk (@E8.rec β (fun _ => E8 β) (fun b0 b1 b2 b3 b4 b5 b6 b7 => E8.mk b0 b1 b2 b3 b4 b5 b6 v) a0) a1 a2 a3 a4 a5 a6 a7) t)) l)
  (@D8.rec (fun _ => Acc2 β)
    (Acc2.mk (fun t => t.c1.c0) (fun v t => @E8.rec (E8 β) (fun _ => E8 (E8 β)) (fun a0 a1 a2 a3 a4 a5 a6 a7 => E8.mk a0 (@E8.rec β (fun _ => E8 β) (fun b0 b1 b2 b3 b4 b5 b6 b7 => E8.mk v b1 b2 b3 b4 b5 b6 b7) a1) a2 a3 a4 a5 a6 a7) t))
    (Acc2.mk (fun t => t.c1.c1) (fun v t => @E8.rec (E8 β) (fun _ => E8 (E8 β)) (fun a0 a1 a2 a3 a4 a5 a6 a7 => E8.mk a0 (@E8.rec β (fun _ => E8 β) (fun b0 b1 b2 b3 b4 b5 b6 b7 => E8.mk b0 v b2 b3 b4 b5 b6 b7) a1) a2 a3 a4 a5 a6 a7) t))
    (Acc2.mk (fun t => t.c1.c2) (fun v t => @E8.rec (E8 β) (fun _ => E8 (E8 β)) (fun a0 a1 a2 a3 a4 a5 a6 a7 => E8.mk a0 (@E8.rec β (fun _ => E8 β) (fun b0 b1 b2 b3 b4 b5 b6 b7 => E8.mk b0 b1 v b3 b4 b5 b6 b7) a1) a2 a3 a4 a5 a6 a7) t))
    (Acc2.mk (fun t => t.c1.c3) (fun v t => @E8.rec (E8 β) (fun _ => E8 (E8 β)) (fun a0 a1 a2 a3 a4 a5 a6 a7 => E8.mk a0 (@E8.rec β (fun _ => E8 β) (fun b0 b1 b2 b3 b4 b5 b6 b7 => E8.mk b0 b1 b2 v b4 b5 b6 b7) a1) a2 a3 a4 a5 a6 a7) t))
    (Acc2.mk (fun t => t.c1.c4) (fun v t => @E8.rec (E8 β) (fun _ => E8 (E8 β)) (fun a0 a1 a2 a3 a4 a5 a6 a7 => E8.mk a0 (@E8.rec β (fun _ => E8 β) (fun b0 b1 b2 b3 b4 b5 b6 b7 => E8.mk b0 b1 b2 b3 v b5 b6 b7) a1) a2 a3 a4 a5 a6 a7) t))
    (Acc2.mk (fun t => t.c1.c5) (fun v t => @E8.rec (E8 β) (fun _ => E8 (E8 β)) (fun a0 a1 a2 a3 a4 a5 a6 a7 => E8.mk a0 (@E8.rec β (fun _ => E8 β) (fun b0 b1 b2 b3 b4 b5 b6 b7 => E8.mk b0 b1 b2 b3 b4 v b6 b7) a1) a2 a3 a4 a5 a6 a7) t))
    (Acc2.mk (fun t => t.c1.c6) (fun v t => @E8.rec (E8 β) (fun _ => E8 (E8 β)) (fun a0 a1 a2 a3 a4 a5 a6 a7 => E8.mk a0 (@E8.rec β (fun _ => E8 β) (fun b0 b1 b2 b3 b4 b5 b6 b7 => E8.mk b0 b1 b2 b3 b4 b5 v b7) a1) a2 a3 a4 a5 a6 a7) t))
    (Acc2.mk (fun t => t.c1.c7) (fun v t => @E8.rec (E8 β) (fun _ => E8 (E8 β)) (fun a0 a1 a2 a3 a4 a5 a6 a7 => E8.mk a0 (@E8.rec β (fun _ => E8 β) (fun b0 b1 b2 b3 b4 b5 b6 b7 => E8.mk b0 b1 b2 b3 b4 b5 b6 v) a1) a2 a3 a4 a5 a6 a7) t)) l)
  (@D8.rec (fun _ => Acc2 β)
    (Acc2.mk (fun t => t.c2.c0) (fun v t => @E8.rec (E8 β) (fun _ => E8 (E8 β)) (fun a0 a1 a2 a3 a4 a5 a6 a7 => E8.mk a0 a1 (@E8.rec β (fun _ => E8 β) (fun b0 b1 b2 b3 b4 b5 b6 b7 => E8.mk v b1 b2 b3 b4 b5 b6 b7) a2) a3 a4 a5 a6 a7) t))
    (Acc2.mk (fun t => t.c2.c1) (fun v t => @E8.rec (E8 β) (fun _ => E8 (E8 β)) (fun a0 a1 a2 a3 a4 a5 a6 a7 => E8.mk a0 a1 (@E8.rec β (fun _ => E8 β) (fun b0 b1 b2 b3 b4 b5 b6 b7 => E8.mk b0 v b2 b3 b4 b5 b6 b7) a2) a3 a4 a5 a6 a7) t))
    (Acc2.mk (fun t => t.c2.c2) (fun v t => @E8.rec (E8 β) (fun _ => E8 (E8 β)) (fun a0 a1 a2 a3 a4 a5 a6 a7 => E8.mk a0 a1 (@E8.rec β (fun _ => E8 β) (fun b0 b1 b2 b3 b4 b5 b6 b7 => E8.mk b0 b1 v b3 b4 b5 b6 b7) a2) a3 a4 a5 a6 a7) t))
    (Acc2.mk (fun t => t.c2.c3) (fun v t => @E8.rec (E8 β) (fun _ => E8 (E8 β)) (fun a0 a1 a2 a3 a4 a5 a6 a7 => E8.mk a0 a1 (@E8.rec β (fun _ => E8 β) (fun b0 b1 b2 b3 b4 b5 b6 b7 => E8.mk b0 b1 b2 v b4 b5 b6 b7) a2) a3 a4 a5 a6 a7) t))
    (Acc2.mk (fun t => t.c2.c4) (fun v t => @E8.rec (E8 β) (fun _ => E8 (E8 β)) (fun a0 a1 a2 a3 a4 a5 a6 a7 => E8.mk a0 a1 (@E8.rec β (fun _ => E8 β) (fun b0 b1 b2 b3 b4 b5 b6 b7 => E8.mk b0 b1 b2 b3 v b5 b6 b7) a2) a3 a4 a5 a6 a7) t))
    (Acc2.mk (fun t => t.c2.c5) (fun v t => @E8.rec (E8 β) (fun _ => E8 (E8 β)) (fun a0 a1 a2 a3 a4 a5 a6 a7 => E8.mk a0 a1 (@E8.rec β (fun _ => E8 β) (fun b0 b1 b2 b3 b4 b5 b6 b7 => E8.mk b0 b1 b2 b3 b4 v b6 b7) a2) a3 a4 a5 a6 a7) t))
    (Acc2.mk (fun t => t.c2.c6) (fun v t => @E8.rec (E8 β) (fun _ => E8 (E8 β)) (fun a0 a1 a2 a3 a4 a5 a6 a7 => E8.mk a0 a1 (@E8.rec β (fun _ => E8 β) (fun b0 b1 b2 b3 b4 b5 b6 b7 => E8.mk b0 b1 b2 b3 b4 b5 v b7) a2) a3 a4 a5 a6 a7) t))
    (Acc2.mk (fun t => t.c2.c7) (fun v t => @E8.rec (E8 β) (fun _ => E8 (E8 β)) (fun a0 a1 a2 a3 a4 a5 a6 a7 => E8.mk a0 a1 (@E8.rec β (fun _ => E8 β) (fun b0 b1 b2 b3 b4 b5 b6 b7 => E8.mk b0 b1 b2 b3 b4 b5 b6 v) a2) a3 a4 a5 a6 a7) t)) l)
  (@D8.rec (fun _ => Acc2 β)
    (Acc2.mk (fun t => t.c3.c0) (fun v t => @E8.rec (E8 β) (fun _ => E8 (E8 β)) (fun a0 a1 a2 a3 a4 a5 a6 a7 => E8.mk a0 a1 a2 (@E8.rec β (fun _ => E8 β) (fun b0 b1 b2 b3 b4 b5 b6 b7 => E8.mk v b1 b2 b3 b4 b5 b6 b7) a3) a4 a5 a6 a7) t))
    (Acc2.mk (fun t => t.c3.c1) (fun v t => @E8.rec (E8 β) (fun _ => E8 (E8 β)) (fun a0 a1 a2 a3 a4 a5 a6 a7 => E8.mk a0 a1 a2 (@E8.rec β (fun _ => E8 β) (fun b0 b1 b2 b3 b4 b5 b6 b7 => E8.mk b0 v b2 b3 b4 b5 b6 b7) a3) a4 a5 a6 a7) t))
    (Acc2.mk (fun t => t.c3.c2) (fun v t => @E8.rec (E8 β) (fun _ => E8 (E8 β)) (fun a0 a1 a2 a3 a4 a5 a6 a7 => E8.mk a0 a1 a2 (@E8.rec β (fun _ => E8 β) (fun b0 b1 b2 b3 b4 b5 b6 b7 => E8.mk b0 b1 v b3 b4 b5 b6 b7) a3) a4 a5 a6 a7) t))
    (Acc2.mk (fun t => t.c3.c3) (fun v t => @E8.rec (E8 β) (fun _ => E8 (E8 β)) (fun a0 a1 a2 a3 a4 a5 a6 a7 => E8.mk a0 a1 a2 (@E8.rec β (fun _ => E8 β) (fun b0 b1 b2 b3 b4 b5 b6 b7 => E8.mk b0 b1 b2 v b4 b5 b6 b7) a3) a4 a5 a6 a7) t))
    (Acc2.mk (fun t => t.c3.c4) (fun v t => @E8.rec (E8 β) (fun _ => E8 (E8 β)) (fun a0 a1 a2 a3 a4 a5 a6 a7 => E8.mk a0 a1 a2 (@E8.rec β (fun _ => E8 β) (fun b0 b1 b2 b3 b4 b5 b6 b7 => E8.mk b0 b1 b2 b3 v b5 b6 b7) a3) a4 a5 a6 a7) t))
    (Acc2.mk (fun t => t.c3.c5) (fun v t => @E8.rec (E8 β) (fun _ => E8 (E8 β)) (fun a0 a1 a2 a3 a4 a5 a6 a7 => E8.mk a0 a1 a2 (@E8.rec β (fun _ => E8 β) (fun b0 b1 b2 b3 b4 b5 b6 b7 => E8.mk b0 b1 b2 b3 b4 v b6 b7) a3) a4 a5 a6 a7) t))
    (Acc2.mk (fun t => t.c3.c6) (fun v t => @E8.rec (E8 β) (fun _ => E8 (E8 β)) (fun a0 a1 a2 a3 a4 a5 a6 a7 => E8.mk a0 a1 a2 (@E8.rec β (fun _ => E8 β) (fun b0 b1 b2 b3 b4 b5 b6 b7 => E8.mk b0 b1 b2 b3 b4 b5 v b7) a3) a4 a5 a6 a7) t))
    (Acc2.mk (fun t => t.c3.c7) (fun v t => @E8.rec (E8 β) (fun _ => E8 (E8 β)) (fun a0 a1 a2 a3 a4 a5 a6 a7 => E8.mk a0 a1 a2 (@E8.rec β (fun _ => E8 β) (fun b0 b1 b2 b3 b4 b5 b6 b7 => E8.mk b0 b1 b2 b3 b4 b5 b6 v) a3) a4 a5 a6 a7) t)) l)
  (@D8.rec (fun _ => Acc2 β)
    (Acc2.mk (fun t => t.c4.c0) (fun v t => @E8.rec (E8 β) (fun _ => E8 (E8 β)) (fun a0 a1 a2 a3 a4 a5 a6 a7 => E8.mk a0 a1 a2 a3 (@E8.rec β (fun _ => E8 β) (fun b0 b1 b2 b3 b4 b5 b6 b7 => E8.mk v b1 b2 b3 b4 b5 b6 b7) a4) a5 a6 a7) t))
    (Acc2.mk (fun t => t.c4.c1) (fun v t => @E8.rec (E8 β) (fun _ => E8 (E8 β)) (fun a0 a1 a2 a3 a4 a5 a6 a7 => E8.mk a0 a1 a2 a3 (@E8.rec β (fun _ => E8 β) (fun b0 b1 b2 b3 b4 b5 b6 b7 => E8.mk b0 v b2 b3 b4 b5 b6 b7) a4) a5 a6 a7) t))
    (Acc2.mk (fun t => t.c4.c2) (fun v t => @E8.rec (E8 β) (fun _ => E8 (E8 β)) (fun a0 a1 a2 a3 a4 a5 a6 a7 => E8.mk a0 a1 a2 a3 (@E8.rec β (fun _ => E8 β) (fun b0 b1 b2 b3 b4 b5 b6 b7 => E8.mk b0 b1 v b3 b4 b5 b6 b7) a4) a5 a6 a7) t))
    (Acc2.mk (fun t => t.c4.c3) (fun v t => @E8.rec (E8 β) (fun _ => E8 (E8 β)) (fun a0 a1 a2 a3 a4 a5 a6 a7 => E8.mk a0 a1 a2 a3 (@E8.rec β (fun _ => E8 β) (fun b0 b1 b2 b3 b4 b5 b6 b7 => E8.mk b0 b1 b2 v b4 b5 b6 b7) a4) a5 a6 a7) t))
    (Acc2.mk (fun t => t.c4.c4) (fun v t => @E8.rec (E8 β) (fun _ => E8 (E8 β)) (fun a0 a1 a2 a3 a4 a5 a6 a7 => E8.mk a0 a1 a2 a3 (@E8.rec β (fun _ => E8 β) (fun b0 b1 b2 b3 b4 b5 b6 b7 => E8.mk b0 b1 b2 b3 v b5 b6 b7) a4) a5 a6 a7) t))
    (Acc2.mk (fun t => t.c4.c5) (fun v t => @E8.rec (E8 β) (fun _ => E8 (E8 β)) (fun a0 a1 a2 a3 a4 a5 a6 a7 => E8.mk a0 a1 a2 a3 (@E8.rec β (fun _ => E8 β) (fun b0 b1 b2 b3 b4 b5 b6 b7 => E8.mk b0 b1 b2 b3 b4 v b6 b7) a4) a5 a6 a7) t))
    (Acc2.mk (fun t => t.c4.c6) (fun v t => @E8.rec (E8 β) (fun _ => E8 (E8 β)) (fun a0 a1 a2 a3 a4 a5 a6 a7 => E8.mk a0 a1 a2 a3 (@E8.rec β (fun _ => E8 β) (fun b0 b1 b2 b3 b4 b5 b6 b7 => E8.mk b0 b1 b2 b3 b4 b5 v b7) a4) a5 a6 a7) t))
    (Acc2.mk (fun t => t.c4.c7) (fun v t => @E8.rec (E8 β) (fun _ => E8 (E8 β)) (fun a0 a1 a2 a3 a4 a5 a6 a7 => E8.mk a0 a1 a2 a3 (@E8.rec β (fun _ => E8 β) (fun b0 b1 b2 b3 b4 b5 b6 b7 => E8.mk b0 b1 b2 b3 b4 b5 b6 v) a4) a5 a6 a7) t)) l)
  (@D8.rec (fun _ => Acc2 β)
    (Acc2.mk (fun t => t.c5.c0) (fun v t => @E8.rec (E8 β) (fun _ => E8 (E8 β)) (fun a0 a1 a2 a3 a4 a5 a6 a7 => E8.mk a0 a1 a2 a3 a4 (@E8.rec β (fun _ => E8 β) (fun b0 b1 b2 b3 b4 b5 b6 b7 => E8.mk v b1 b2 b3 b4 b5 b6 b7) a5) a6 a7) t))
    (Acc2.mk (fun t => t.c5.c1) (fun v t => @E8.rec (E8 β) (fun _ => E8 (E8 β)) (fun a0 a1 a2 a3 a4 a5 a6 a7 => E8.mk a0 a1 a2 a3 a4 (@E8.rec β (fun _ => E8 β) (fun b0 b1 b2 b3 b4 b5 b6 b7 => E8.mk b0 v b2 b3 b4 b5 b6 b7) a5) a6 a7) t))
    (Acc2.mk (fun t => t.c5.c2) (fun v t => @E8.rec (E8 β) (fun _ => E8 (E8 β)) (fun a0 a1 a2 a3 a4 a5 a6 a7 => E8.mk a0 a1 a2 a3 a4 (@E8.rec β (fun _ => E8 β) (fun b0 b1 b2 b3 b4 b5 b6 b7 => E8.mk b0 b1 v b3 b4 b5 b6 b7) a5) a6 a7) t))
    (Acc2.mk (fun t => t.c5.c3) (fun v t => @E8.rec (E8 β) (fun _ => E8 (E8 β)) (fun a0 a1 a2 a3 a4 a5 a6 a7 => E8.mk a0 a1 a2 a3 a4 (@E8.rec β (fun _ => E8 β) (fun b0 b1 b2 b3 b4 b5 b6 b7 => E8.mk b0 b1 b2 v b4 b5 b6 b7) a5) a6 a7) t))
    (Acc2.mk (fun t => t.c5.c4) (fun v t => @E8.rec (E8 β) (fun _ => E8 (E8 β)) (fun a0 a1 a2 a3 a4 a5 a6 a7 => E8.mk a0 a1 a2 a3 a4 (@E8.rec β (fun _ => E8 β) (fun b0 b1 b2 b3 b4 b5 b6 b7 => E8.mk b0 b1 b2 b3 v b5 b6 b7) a5) a6 a7) t))
    (Acc2.mk (fun t => t.c5.c5) (fun v t => @E8.rec (E8 β) (fun _ => E8 (E8 β)) (fun a0 a1 a2 a3 a4 a5 a6 a7 => E8.mk a0 a1 a2 a3 a4 (@E8.rec β (fun _ => E8 β) (fun b0 b1 b2 b3 b4 b5 b6 b7 => E8.mk b0 b1 b2 b3 b4 v b6 b7) a5) a6 a7) t))
    (Acc2.mk (fun t => t.c5.c6) (fun v t => @E8.rec (E8 β) (fun _ => E8 (E8 β)) (fun a0 a1 a2 a3 a4 a5 a6 a7 => E8.mk a0 a1 a2 a3 a4 (@E8.rec β (fun _ => E8 β) (fun b0 b1 b2 b3 b4 b5 b6 b7 => E8.mk b0 b1 b2 b3 b4 b5 v b7) a5) a6 a7) t))
    (Acc2.mk (fun t => t.c5.c7) (fun v t => @E8.rec (E8 β) (fun _ => E8 (E8 β)) (fun a0 a1 a2 a3 a4 a5 a6 a7 => E8.mk a0 a1 a2 a3 a4 (@E8.rec β (fun _ => E8 β) (fun b0 b1 b2 b3 b4 b5 b6 b7 => E8.mk b0 b1 b2 b3 b4 b5 b6 v) a5) a6 a7) t)) l)
  (@D8.rec (fun _ => Acc2 β)
    (Acc2.mk (fun t => t.c6.c0) (fun v t => @E8.rec (E8 β) (fun _ => E8 (E8 β)) (fun a0 a1 a2 a3 a4 a5 a6 a7 => E8.mk a0 a1 a2 a3 a4 a5 (@E8.rec β (fun _ => E8 β) (fun b0 b1 b2 b3 b4 b5 b6 b7 => E8.mk v b1 b2 b3 b4 b5 b6 b7) a6) a7) t))
    (Acc2.mk (fun t => t.c6.c1) (fun v t => @E8.rec (E8 β) (fun _ => E8 (E8 β)) (fun a0 a1 a2 a3 a4 a5 a6 a7 => E8.mk a0 a1 a2 a3 a4 a5 (@E8.rec β (fun _ => E8 β) (fun b0 b1 b2 b3 b4 b5 b6 b7 => E8.mk b0 v b2 b3 b4 b5 b6 b7) a6) a7) t))
    (Acc2.mk (fun t => t.c6.c2) (fun v t => @E8.rec (E8 β) (fun _ => E8 (E8 β)) (fun a0 a1 a2 a3 a4 a5 a6 a7 => E8.mk a0 a1 a2 a3 a4 a5 (@E8.rec β (fun _ => E8 β) (fun b0 b1 b2 b3 b4 b5 b6 b7 => E8.mk b0 b1 v b3 b4 b5 b6 b7) a6) a7) t))
    (Acc2.mk (fun t => t.c6.c3) (fun v t => @E8.rec (E8 β) (fun _ => E8 (E8 β)) (fun a0 a1 a2 a3 a4 a5 a6 a7 => E8.mk a0 a1 a2 a3 a4 a5 (@E8.rec β (fun _ => E8 β) (fun b0 b1 b2 b3 b4 b5 b6 b7 => E8.mk b0 b1 b2 v b4 b5 b6 b7) a6) a7) t))
    (Acc2.mk (fun t => t.c6.c4) (fun v t => @E8.rec (E8 β) (fun _ => E8 (E8 β)) (fun a0 a1 a2 a3 a4 a5 a6 a7 => E8.mk a0 a1 a2 a3 a4 a5 (@E8.rec β (fun _ => E8 β) (fun b0 b1 b2 b3 b4 b5 b6 b7 => E8.mk b0 b1 b2 b3 v b5 b6 b7) a6) a7) t))
    (Acc2.mk (fun t => t.c6.c5) (fun v t => @E8.rec (E8 β) (fun _ => E8 (E8 β)) (fun a0 a1 a2 a3 a4 a5 a6 a7 => E8.mk a0 a1 a2 a3 a4 a5 (@E8.rec β (fun _ => E8 β) (fun b0 b1 b2 b3 b4 b5 b6 b7 => E8.mk b0 b1 b2 b3 b4 v b6 b7) a6) a7) t))
    (Acc2.mk (fun t => t.c6.c6) (fun v t => @E8.rec (E8 β) (fun _ => E8 (E8 β)) (fun a0 a1 a2 a3 a4 a5 a6 a7 => E8.mk a0 a1 a2 a3 a4 a5 (@E8.rec β (fun _ => E8 β) (fun b0 b1 b2 b3 b4 b5 b6 b7 => E8.mk b0 b1 b2 b3 b4 b5 v b7) a6) a7) t))
    (Acc2.mk (fun t => t.c6.c7) (fun v t => @E8.rec (E8 β) (fun _ => E8 (E8 β)) (fun a0 a1 a2 a3 a4 a5 a6 a7 => E8.mk a0 a1 a2 a3 a4 a5 (@E8.rec β (fun _ => E8 β) (fun b0 b1 b2 b3 b4 b5 b6 b7 => E8.mk b0 b1 b2 b3 b4 b5 b6 v) a6) a7) t)) l)
  (@D8.rec (fun _ => Acc2 β)
    (Acc2.mk (fun t => t.c7.c0) (fun v t => @E8.rec (E8 β) (fun _ => E8 (E8 β)) (fun a0 a1 a2 a3 a4 a5 a6 a7 => E8.mk a0 a1 a2 a3 a4 a5 a6 (@E8.rec β (fun _ => E8 β) (fun b0 b1 b2 b3 b4 b5 b6 b7 => E8.mk v b1 b2 b3 b4 b5 b6 b7) a7)) t))
    (Acc2.mk (fun t => t.c7.c1) (fun v t => @E8.rec (E8 β) (fun _ => E8 (E8 β)) (fun a0 a1 a2 a3 a4 a5 a6 a7 => E8.mk a0 a1 a2 a3 a4 a5 a6 (@E8.rec β (fun _ => E8 β) (fun b0 b1 b2 b3 b4 b5 b6 b7 => E8.mk b0 v b2 b3 b4 b5 b6 b7) a7)) t))
    (Acc2.mk (fun t => t.c7.c2) (fun v t => @E8.rec (E8 β) (fun _ => E8 (E8 β)) (fun a0 a1 a2 a3 a4 a5 a6 a7 => E8.mk a0 a1 a2 a3 a4 a5 a6 (@E8.rec β (fun _ => E8 β) (fun b0 b1 b2 b3 b4 b5 b6 b7 => E8.mk b0 b1 v b3 b4 b5 b6 b7) a7)) t))
    (Acc2.mk (fun t => t.c7.c3) (fun v t => @E8.rec (E8 β) (fun _ => E8 (E8 β)) (fun a0 a1 a2 a3 a4 a5 a6 a7 => E8.mk a0 a1 a2 a3 a4 a5 a6 (@E8.rec β (fun _ => E8 β) (fun b0 b1 b2 b3 b4 b5 b6 b7 => E8.mk b0 b1 b2 v b4 b5 b6 b7) a7)) t))
    (Acc2.mk (fun t => t.c7.c4) (fun v t => @E8.rec (E8 β) (fun _ => E8 (E8 β)) (fun a0 a1 a2 a3 a4 a5 a6 a7 => E8.mk a0 a1 a2 a3 a4 a5 a6 (@E8.rec β (fun _ => E8 β) (fun b0 b1 b2 b3 b4 b5 b6 b7 => E8.mk b0 b1 b2 b3 v b5 b6 b7) a7)) t))
    (Acc2.mk (fun t => t.c7.c5) (fun v t => @E8.rec (E8 β) (fun _ => E8 (E8 β)) (fun a0 a1 a2 a3 a4 a5 a6 a7 => E8.mk a0 a1 a2 a3 a4 a5 a6 (@E8.rec β (fun _ => E8 β) (fun b0 b1 b2 b3 b4 b5 b6 b7 => E8.mk b0 b1 b2 b3 b4 v b6 b7) a7)) t))
    (Acc2.mk (fun t => t.c7.c6) (fun v t => @E8.rec (E8 β) (fun _ => E8 (E8 β)) (fun a0 a1 a2 a3 a4 a5 a6 a7 => E8.mk a0 a1 a2 a3 a4 a5 a6 (@E8.rec β (fun _ => E8 β) (fun b0 b1 b2 b3 b4 b5 b6 b7 => E8.mk b0 b1 b2 b3 b4 b5 v b7) a7)) t))
    (Acc2.mk (fun t => t.c7.c7) (fun v t => @E8.rec (E8 β) (fun _ => E8 (E8 β)) (fun a0 a1 a2 a3 a4 a5 a6 a7 => E8.mk a0 a1 a2 a3 a4 a5 a6 (@E8.rec β (fun _ => E8 β) (fun b0 b1 b2 b3 b4 b5 b6 b7 => E8.mk b0 b1 b2 b3 b4 b5 b6 v) a7)) t)) l) h
theorem acc2_g (h l : D8) (t : E8 (E8 β)) : (acc2 h l).g t = sel8 l (sel8 h t) := by cases h <;> cases l <;> rfl
theorem acc2_s (h l : D8) (v : β) (t : E8 (E8 β)) : (acc2 h l).s v t = put8 h (put8 l v (sel8 h t)) t := by cases t; cases h <;> cases l <;> rfl
def acc64 (n : Nat) : Acc2 β := acc2 (dig8 (Nat.div n 8)) (dig8 (Nat.mod n 8))
theorem acc64_same (n : Nat) (v : β) (t : E8 (E8 β)) : (acc64 n).g ((acc64 n).s v t) = v := by
  unfold acc64; rw [acc2_g, acc2_s, sel_put_same, sel_put_same]
theorem acc64_ne (n m : Nat) (hn : n < 64) (hm : m < 64) (h : n ≠ m) (v : β) (t : E8 (E8 β)) : (acc64 n).g ((acc64 m).s v t) = (acc64 n).g t := by
  unfold acc64; rw [acc2_g, acc2_s, acc2_g]
  by_cases hd : n / 8 = m / 8
  · have e : dig8 (Nat.div n 8) = dig8 (Nat.div m 8) := congrArg dig8 hd
    rw [e, sel_put_same, sel_put_ne]
    intro hx
    have h1 := num_dig (n % 8) (by omega)
    have h2 := num_dig (m % 8) (by omega)
    have hx : num8 (dig8 (n % 8)) = num8 (dig8 (m % 8)) := hx
    rw [h1, h2] at hx; omega
  · rw [sel_put_ne]
    intro hx
    have h1 := num_dig (n / 8) (by omega)
    have h2 := num_dig (m / 8) (by omega)
    have hx : num8 (dig8 (n / 8)) = num8 (dig8 (m / 8)) := hx
    rw [h1, h2] at hx; exact hd hx
def gB (k : Nat) (t : E8 (E8 (E8 (E8 β)))) : β := (acc64 (Nat.mod k 64)).g ((acc64 (Nat.div k 64)).g t)
def sB (k : Nat) (v : β) (t : E8 (E8 (E8 (E8 β)))) : E8 (E8 (E8 (E8 β))) := (acc64 (Nat.div k 64)).s ((acc64 (Nat.mod k 64)).s v ((acc64 (Nat.div k 64)).g t)) t
theorem gB_same (n : Nat) (v : β) (t : E8 (E8 (E8 (E8 β)))) : gB n (sB n v t) = v := by unfold gB sB; rw [acc64_same, acc64_same]
theorem gB_ne (n m : Nat) (hn : n < 4096) (hm : m < 4096) (h : n ≠ m) (v : β) (t : E8 (E8 (E8 (E8 β)))) : gB n (sB m v t) = gB n t := by
  unfold gB sB
  have a1 : Nat.div n 64 < 64 := show n / 64 < 64 by omega
  have a2 : Nat.div m 64 < 64 := show m / 64 < 64 by omega
  have a3 : Nat.mod n 64 < 64 := show n % 64 < 64 by omega
  have a4 : Nat.mod m 64 < 64 := show m % 64 < 64 by omega
  by_cases hd : Nat.div n 64 = Nat.div m 64
  · rw [hd, acc64_same, acc64_ne _ _ a3 a4]
    intro hx
    have hx : n % 64 = m % 64 := hx
    have hd : n / 64 = m / 64 := hd
    omega
  · rw [acc64_ne _ _ a1 a2 hd]
def gC (k : Nat) (t : E8 (E8 (E8 (E8 (E8 (E8 β)))))) : β := (acc64 (Nat.mod k 64)).g (gB (Nat.div k 64) t)
def sC (k : Nat) (v : β) (t : E8 (E8 (E8 (E8 (E8 (E8 β)))))) : E8 (E8 (E8 (E8 (E8 (E8 β))))) := sB (Nat.div k 64) ((acc64 (Nat.mod k 64)).s v (gB (Nat.div k 64) t)) t
theorem gC_same (n : Nat) (v : β) (t : E8 (E8 (E8 (E8 (E8 (E8 β)))))) : gC n (sC n v t) = v := by unfold gC sC; rw [gB_same, acc64_same]
theorem gC_ne (n m : Nat) (hn : n < 262144) (hm : m < 262144) (h : n ≠ m) (v : β) (t : E8 (E8 (E8 (E8 (E8 (E8 β)))))) : gC n (sC m v t) = gC n t := by
  unfold gC sC
  have a1 : Nat.div n 64 < 4096 := show n / 64 < 4096 by omega
  have a2 : Nat.div m 64 < 4096 := show m / 64 < 4096 by omega
  have a3 : Nat.mod n 64 < 64 := show n % 64 < 64 by omega
  have a4 : Nat.mod m 64 < 64 := show m % 64 < 64 by omega
  by_cases hd : Nat.div n 64 = Nat.div m 64
  · rw [hd, gB_same, acc64_ne _ _ a3 a4]
    intro hx
    have hx : n % 64 = m % 64 := hx
    have hd : n / 64 = m / 64 := hd
    omega
  · rw [gB_ne _ _ a1 a2 hd]
end
/-- A table: the first 64 places, 4096 behind, 262144 behind these. -/
structure Tr (α : Type) where
  a : E8 (E8 (Option α))
  b : E8 (E8 (E8 (E8 (Option α))))
  c : E8 (E8 (E8 (E8 (E8 (E8 (Option α))))))
section
variable {α : Type}
structure Acc (α : Type) where
  g : Tr α → Option α
  s : Option α → Tr α → Option (Tr α)
def accT (h l : D8) : Acc α := @D8.rec (fun _ => Acc α)
  (@D8.rec (fun _ => Acc α)
    (Acc.mk (fun t => t.a.c0.c0) (fun v t => @Tr.rec α (fun _ => Option (Tr α)) (fun a b c => some (Tr.mk (@E8.rec (E8 (Option α)) (fun _ => E8 (E8 (Option α))) (fun a0 a1 a2 a3 a4 a5 a6 a7 => E8.mk (@E8.rec (Option α) (fun _ => E8 (Option α)) (fun b0 b1 b2 b3 b4 b5 b6 b7 => E8.mk v b1 b2 b3 b4 b5 b6 b7) a0) a1 a2 a3 a4 a5 a6 a7) a) b c)) t))
    (Acc.mk (fun t => t.a.c0.c1) (fun v t => @Tr.rec α (fun _ => Option (Tr α)) (fun a b c => some (Tr.mk (@E8.rec (E8 (Option α)) (fun _ => E8 (E8 (Option α))) (fun a0 a1 a2 a3 a4 a5 a6 a7 => E8.mk (@E8.rec (Option α) (fun _ => E8 (Option α)) (fun b0 b1 b2 b3 b4 b5 b6 b7 => E8.mk b0 v b2 b3 b4 b5 b6 b7) a0) a1 a2 a3 a4 a5 a6 a7) a) b c)) t))
    (Acc.mk (fun t => t.a.c0.c2) (fun v t => @Tr.rec α (fun _ => Option (Tr α)) (fun a b c => some (Tr.mk (@E8.rec (E8 (Option α)) (fun _ => E8 (E8 (Option α))) (fun a0 a1 a2 a3 a4 a5 a6 a7 => E8.mk (@E8.rec (Option α) (fun _ => E8 (Option α)) (fun b0 b1 b2 b3 b4 b5 b6 b7 => E8.mk b0 b1 v b3 b4 b5 b6 b7) a0) a1 a2 a3 a4 a5 a6 a7) a) b c)) t))
    (Acc.mk (fun t => t.a.c0.c3) (fun v t => @Tr.rec α (fun _ => Option (Tr α)) (fun a b c => some (Tr.mk (@E8.rec (E8 (Option α)) (fun _ => E8 (E8 (Option α))) (fun a0 a1 a2 a3 a4 a5 a6 a7 => E8.mk (@E8.rec (Option α) (fun _ => E8 (Option α)) (fun b0 b1 b2 b3 b4 b5 b6 b7 => E8.mk b0 b1 b2 v b4 b5 b6 b7) a0) a1 a2 a3 a4 a5 a6 a7) a) b c)) t))
    (Acc.mk (fun t => t.a.c0.c4) (fun v t => @Tr.rec α (fun _ => Option (Tr α)) (fun a b c => some (Tr.mk (@E8.rec (E8 (Option α)) (fun _ => E8 (E8 (Option α))) (fun a0 a1 a2 a3 a4 a5 a6 a7 => E8.mk (@E8.rec (Option α) (fun _ => E8 (Option α)) (fun b0 b1 b2 b3 b4 b5 b6 b7 => E8.mk b0 b1 b2 b3 v b5 b6 b7) a0) a1 a2 a3 a4 a5 a6 a7) a) b c)) t))
    (Acc.mk (fun t => t.a.c0.c5) (fun v t => @Tr.rec α (fun _ => Option (Tr α)) (fun a b c => some (Tr.mk (@E8.rec (E8 (Option α)) (fun _ => E8 (E8 (Option α))) (fun a0 a1 a2 a3 a4 a5 a6 a7 => E8.mk (@E8.rec (Option α) (fun _ => E8 (Option α)) (fun b0 b1 b2 b3 b4 b5 b6 b7 => E8.mk b0 b1 b2 b3 b4 v b6 b7) a0) a1 a2 a3 a4 a5 a6 a7) a) b c)) t))
    (Acc.mk (fun t => t.a.c0.c6) (fun v t => @Tr.rec α (fun _ => Option (Tr α)) (fun a b c => some (Tr.mk (@E8.rec (E8 (Option α)) (fun _ => E8 (E8 (Option α))) (fun a0 a1 a2 a3 a4 a5 a6 a7 => E8.mk (@E8.rec (Option α) (fun _ => E8 (Option α)) (fun b0 b1 b2 b3 b4 b5 b6 b7 => E8.mk b0 b1 b2 b3 b4 b5 v b7) a0) a1 a2 a3 a4 a5 a6 a7) a) b c)) t))
    (Acc.mk (fun t => t.a.c0.c7) (fun v t => @Tr.rec α (fun _ => Option (Tr α)) (fun a b c => some (Tr.mk (@E8.rec (E8 (Option α)) (fun _ => E8 (E8 (Option α))) (fun a0 a1 a2 a3 a4 a5 a6 a7 => E8.mk (@E8.rec (Option α) (fun _ => E8 (Option α)) (fun b0 b1 b2 b3 b4 b5 b6 b7 => E8.mk b0 b1 b2 b3 b4 b5 b6 v) a0) a1 a2 a3 a4 a5 a6 a7) a) b c)) t)) l)
  (@D8.rec (fun _ => Acc α)
    (Acc.mk (fun t => t.a.c1.c0) (fun v t => @Tr.rec α (fun _ => Option (Tr α)) (fun a b c => some (Tr.mk (@E8.rec (E8 (Option α)) (fun _ => E8 (E8 (Option α))) (fun a0 a1 a2 a3 a4 a5 a6 a7 => E8.mk a0 (@E8.rec (Option α) (fun _ => E8 (Option α)) (fun b0 b1 b2 b3 b4 b5 b6 b7 => E8.mk v b1 b2 b3 b4 b5 b6 b7) a1) a2 a3 a4 a5 a6 a7) a) b c)) t))
    (Acc.mk (fun t => t.a.c1.c1) (fun v t => @Tr.rec α (fun _ => Option (Tr α)) (fun a b c => some (Tr.mk (@E8.rec (E8 (Option α)) (fun _ => E8 (E8 (Option α))) (fun a0 a1 a2 a3 a4 a5 a6 a7 => E8.mk a0 (@E8.rec (Option α) (fun _ => E8 (Option α)) (fun b0 b1 b2 b3 b4 b5 b6 b7 => E8.mk b0 v b2 b3 b4 b5 b6 b7) a1) a2 a3 a4 a5 a6 a7) a) b c)) t))
    (Acc.mk (fun t => t.a.c1.c2) (fun v t => @Tr.rec α (fun _ => Option (Tr α)) (fun a b c => some (Tr.mk (@E8.rec (E8 (Option α)) (fun _ => E8 (E8 (Option α))) (fun a0 a1 a2 a3 a4 a5 a6 a7 => E8.mk a0 (@E8.rec (Option α) (fun _ => E8 (Option α)) (fun b0 b1 b2 b3 b4 b5 b6 b7 => E8.mk b0 b1 v b3 b4 b5 b6 b7) a1) a2 a3 a4 a5 a6 a7) a) b c)) t))
    (Acc.mk (fun t => t.a.c1.c3) (fun v t => @Tr.rec α (fun _ => Option (Tr α)) (fun a b c => some (Tr.mk (@E8.rec (E8 (Option α)) (fun _ => E8 (E8 (Option α))) (fun a0 a1 a2 a3 a4 a5 a6 a7 => E8.mk a0 (@E8.rec (Option α) (fun _ => E8 (Option α)) (fun b0 b1 b2 b3 b4 b5 b6 b7 => E8.mk b0 b1 b2 v b4 b5 b6 b7) a1) a2 a3 a4 a5 a6 a7) a) b c)) t))
    (Acc.mk (fun t => t.a.c1.c4) (fun v t => @Tr.rec α (fun _ => Option (Tr α)) (fun a b c => some (Tr.mk (@E8.rec (E8 (Option α)) (fun _ => E8 (E8 (Option α))) (fun a0 a1 a2 a3 a4 a5 a6 a7 => E8.mk a0 (@E8.rec (Option α) (fun _ => E8 (Option α)) (fun b0 b1 b2 b3 b4 b5 b6 b7 => E8.mk b0 b1 b2 b3 v b5 b6 b7) a1) a2 a3 a4 a5 a6 a7) a) b c)) t))
    (Acc.mk (fun t => t.a.c1.c5) (fun v t => @Tr.rec α (fun _ => Option (Tr α)) (fun a b c => some (Tr.mk (@E8.rec (E8 (Option α)) (fun _ => E8 (E8 (Option α))) (fun a0 a1 a2 a3 a4 a5 a6 a7 => E8.mk a0 (@E8.rec (Option α) (fun _ => E8 (Option α)) (fun b0 b1 b2 b3 b4 b5 b6 b7 => E8.mk b0 b1 b2 b3 b4 v b6 b7) a1) a2 a3 a4 a5 a6 a7) a) b c)) t))
    (Acc.mk (fun t => t.a.c1.c6) (fun v t => @Tr.rec α (fun _ => Option (Tr α)) (fun a b c => some (Tr.mk (@E8.rec (E8 (Option α)) (fun _ => E8 (E8 (Option α))) (fun a0 a1 a2 a3 a4 a5 a6 a7 => E8.mk a0 (@E8.rec (Option α) (fun _ => E8 (Option α)) (fun b0 b1 b2 b3 b4 b5 b6 b7 => E8.mk b0 b1 b2 b3 b4 b5 v b7) a1) a2 a3 a4 a5 a6 a7) a) b c)) t))
    (Acc.mk (fun t => t.a.c1.c7) (fun v t => @Tr.rec α (fun _ => Option (Tr α)) (fun a b c => some (Tr.mk (@E8.rec (E8 (Option α)) (fun _ => E8 (E8 (Option α))) (fun a0 a1 a2 a3 a4 a5 a6 a7 => E8.mk a0 (@E8.rec (Option α) (fun _ => E8 (Option α)) (fun b0 b1 b2 b3 b4 b5 b6 b7 => E8.mk b0 b1 b2 b3 b4 b5 b6 v) a1) a2 a3 a4 a5 a6 a7) a) b c)) t)) l)
  (@D8.rec (fun _ => Acc α)
    (Acc.mk (fun t => t.a.c2.c0) (fun v t => @Tr.rec α (fun _ => Option (Tr α)) (fun a b c => some (Tr.mk (@E8.rec (E8 (Option α)) (fun _ => E8 (E8 (Option α))) (fun a0 a1 a2 a3 a4 a5 a6 a7 => E8.mk a0 a1 (@E8.rec (Option α) (fun _ => E8 (Option α)) (fun b0 b1 b2 b3 b4 b5 b6 b7 => E8.mk v b1 b2 b3 b4 b5 b6 b7) a2) a3 a4 a5 a6 a7) a) b c)) t))
    (Acc.mk (fun t => t.a.c2.c1) (fun v t => @Tr.rec α (fun _ => Option (Tr α)) (fun a b c => some (Tr.mk (@E8.rec (E8 (Option α)) (fun _ => E8 (E8 (Option α))) (fun a0 a1 a2 a3 a4 a5 a6 a7 => E8.mk a0 a1 (@E8.rec (Option α) (fun _ => E8 (Option α)) (fun b0 b1 b2 b3 b4 b5 b6 b7 => E8.mk b0 v b2 b3 b4 b5 b6 b7) a2) a3 a4 a5 a6 a7) a) b c)) t))
    (Acc.mk (fun t => t.a.c2.c2) (fun v t => @Tr.rec α (fun _ => Option (Tr α)) (fun a b c => some (Tr.mk (@E8.rec (E8 (Option α)) (fun _ => E8 (E8 (Option α))) (fun a0 a1 a2 a3 a4 a5 a6 a7 => E8.mk a0 a1 (@E8.rec (Option α) (fun _ => E8 (Option α)) (fun b0 b1 b2 b3 b4 b5 b6 b7 => E8.mk b0 b1 v b3 b4 b5 b6 b7) a2) a3 a4 a5 a6 a7) a) b c)) t))
    (Acc.mk (fun t => t.a.c2.c3) (fun v t => @Tr.rec α (fun _ => Option (Tr α)) (fun a b c => some (Tr.mk (@E8.rec (E8 (Option α)) (fun _ => E8 (E8 (Option α))) (fun a0 a1 a2 a3 a4 a5 a6 a7 => E8.mk a0 a1 (@E8.rec (Option α) (fun _ => E8 (Option α)) (fun b0 b1 b2 b3 b4 b5 b6 b7 => E8.mk b0 b1 b2 v b4 b5 b6 b7) a2) a3 a4 a5 a6 a7) a) b c)) t))
    (Acc.mk (fun t => t.a.c2.c4) (fun v t => @Tr.rec α (fun _ => Option (Tr α)) (fun a b c => some (Tr.mk (@E8.rec (E8 (Option α)) (fun _ => E8 (E8 (Option α))) (fun a0 a1 a2 a3 a4 a5 a6 a7 => E8.mk a0 a1 (@E8.rec (Option α) (fun _ => E8 (Option α)) (fun b0 b1 b2 b3 b4 b5 b6 b7 => E8.mk b0 b1 b2 b3 v b5 b6 b7) a2) a3 a4 a5 a6 a7) a) b c)) t))
    (Acc.mk (fun t => t.a.c2.c5) (fun v t => @Tr.rec α (fun _ => Option (Tr α)) (fun a b c => some (Tr.mk (@E8.rec (E8 (Option α)) (fun _ => E8 (E8 (Option α))) (fun a0 a1 a2 a3 a4 a5 a6 a7 => E8.mk a0 a1 (@E8.rec (Option α) (fun _ => E8 (Option α)) (fun b0 b1 b2 b3 b4 b5 b6 b7 => E8.mk b0 b1 b2 b3 b4 v b6 b7) a2) a3 a4 a5 a6 a7) a) b c)) t))
    (Acc.mk (fun t => t.a.c2.c6) (fun v t => @Tr.rec α (fun _ => Option (Tr α)) (fun a b c => some (Tr.mk (@E8.rec (E8 (Option α)) (fun _ => E8 (E8 (Option α))) (fun a0 a1 a2 a3 a4 a5 a6 a7 => E8.mk a0 a1 (@E8.rec (Option α) (fun _ => E8 (Option α)) (fun b0 b1 b2 b3 b4 b5 b6 b7 => E8.mk b0 b1 b2 b3 b4 b5 v b7) a2) a3 a4 a5 a6 a7) a) b c)) t))
    (Acc.mk (fun t => t.a.c2.c7) (fun v t => @Tr.rec α (fun _ => Option (Tr α)) (fun a b c => some (Tr.mk (@E8.rec (E8 (Option α)) (fun _ => E8 (E8 (Option α))) (fun a0 a1 a2 a3 a4 a5 a6 a7 => E8.mk a0 a1 (@E8.rec (Option α) (fun _ => E8 (Option α)) (fun b0 b1 b2 b3 b4 b5 b6 b7 => E8.mk b0 b1 b2 b3 b4 b5 b6 v) a2) a3 a4 a5 a6 a7) a) b c)) t)) l)
  (@D8.rec (fun _ => Acc α)
    (Acc.mk (fun t => t.a.c3.c0) (fun v t => @Tr.rec α (fun _ => Option (Tr α)) (fun a b c => some (Tr.mk (@E8.rec (E8 (Option α)) (fun _ => E8 (E8 (Option α))) (fun a0 a1 a2 a3 a4 a5 a6 a7 => E8.mk a0 a1 a2 (@E8.rec (Option α) (fun _ => E8 (Option α)) (fun b0 b1 b2 b3 b4 b5 b6 b7 => E8.mk v b1 b2 b3 b4 b5 b6 b7) a3) a4 a5 a6 a7) a) b c)) t))
    (Acc.mk (fun t => t.a.c3.c1) (fun v t => @Tr.rec α (fun _ => Option (Tr α)) (fun a b c => some (Tr.mk (@E8.rec (E8 (Option α)) (fun _ => E8 (E8 (Option α))) (fun a0 a1 a2 a3 a4 a5 a6 a7 => E8.mk a0 a1 a2 (@E8.rec (Option α) (fun _ => E8 (Option α)) (fun b0 b1 b2 b3 b4 b5 b6 b7 => E8.mk b0 v b2 b3 b4 b5 b6 b7) a3) a4 a5 a6 a7) a) b c)) t))
    (Acc.mk (fun t => t.a.c3.c2) (fun v t => @Tr.rec α (fun _ => Option (Tr α)) (fun a b c => some (Tr.mk (@E8.rec (E8 (Option α)) (fun _ => E8 (E8 (Option α))) (fun a0 a1 a2 a3 a4 a5 a6 a7 => E8.mk a0 a1 a2 (@E8.rec (Option α) (fun _ => E8 (Option α)) (fun b0 b1 b2 b3 b4 b5 b6 b7 => E8.mk b0 b1 v b3 b4 b5 b6 b7) a3) a4 a5 a6 a7) a) b c)) t))
    (Acc.mk (fun t => t.a.c3.c3) (fun v t => @Tr.rec α (fun _ => Option (Tr α)) (fun a b c => some (Tr.mk (@E8.rec (E8 (Option α)) (fun _ => E8 (E8 (Option α))) (fun a0 a1 a2 a3 a4 a5 a6 a7 => E8.mk a0 a1 a2 (@E8.rec (Option α) (fun _ => E8 (Option α)) (fun b0 b1 b2 b3 b4 b5 b6 b7 => E8.mk b0 b1 b2 v b4 b5 b6 b7) a3) a4 a5 a6 a7) a) b c)) t))
    (Acc.mk (fun t => t.a.c3.c4) (fun v t => @Tr.rec α (fun _ => Option (Tr α)) (fun a b c => some (Tr.mk (@E8.rec (E8 (Option α)) (fun _ => E8 (E8 (Option α))) (fun a0 a1 a2 a3 a4 a5 a6 a7 => E8.mk a0 a1 a2 (@E8.rec (Option α) (fun _ => E8 (Option α)) (fun b0 b1 b2 b3 b4 b5 b6 b7 => E8.mk b0 b1 b2 b3 v b5 b6 b7) a3) a4 a5 a6 a7) a) b c)) t))
    (Acc.mk (fun t => t.a.c3.c5) (fun v t => @Tr.rec α (fun _ => Option (Tr α)) (fun a b c => some (Tr.mk (@E8.rec (E8 (Option α)) (fun _ => E8 (E8 (Option α))) (fun a0 a1 a2 a3 a4 a5 a6 a7 => E8.mk a0 a1 a2 (@E8.rec (Option α) (fun _ => E8 (Option α)) (fun b0 b1 b2 b3 b4 b5 b6 b7 => E8.mk b0 b1 b2 b3 b4 v b6 b7) a3) a4 a5 a6 a7) a) b c)) t))
    (Acc.mk (fun t => t.a.c3.c6) (fun v t => @Tr.rec α (fun _ => Option (Tr α)) (fun a b c => some (Tr.mk (@E8.rec (E8 (Option α)) (fun _ => E8 (E8 (Option α))) (fun a0 a1 a2 a3 a4 a5 a6 a7 => E8.mk a0 a1 a2 (@E8.rec (Option α) (fun _ => E8 (Option α)) (fun b0 b1 b2 b3 b4 b5 b6 b7 => E8.mk b0 b1 b2 b3 b4 b5 v b7) a3) a4 a5 a6 a7) a) b c)) t))
    (Acc.mk (fun t => t.a.c3.c7) (fun v t => @Tr.rec α (fun _ => Option (Tr α)) (fun a b c => some (Tr.mk (@E8.rec (E8 (Option α)) (fun _ => E8 (E8 (Option α))) (fun a0 a1 a2 a3 a4 a5 a6 a7 => E8.mk a0 a1 a2 (@E8.rec (Option α) (fun _ => E8 (Option α)) (fun b0 b1 b2 b3 b4 b5 b6 b7 => E8.mk b0 b1 b2 b3 b4 b5 b6 v) a3) a4 a5 a6 a7) a) b c)) t)) l)
  (@D8.rec (fun _ => Acc α)
    (Acc.mk (fun t => t.a.c4.c0) (fun v t => @Tr.rec α (fun _ => Option (Tr α)) (fun a b c => some (Tr.mk (@E8.rec (E8 (Option α)) (fun _ => E8 (E8 (Option α))) (fun a0 a1 a2 a3 a4 a5 a6 a7 => E8.mk a0 a1 a2 a3 (@E8.rec (Option α) (fun _ => E8 (Option α)) (fun b0 b1 b2 b3 b4 b5 b6 b7 => E8.mk v b1 b2 b3 b4 b5 b6 b7) a4) a5 a6 a7) a) b c)) t))
    (Acc.mk (fun t => t.a.c4.c1) (fun v t => @Tr.rec α (fun _ => Option (Tr α)) (fun a b c => some (Tr.mk (@E8.rec (E8 (Option α)) (fun _ => E8 (E8 (Option α))) (fun a0 a1 a2 a3 a4 a5 a6 a7 => E8.mk a0 a1 a2 a3 (@E8.rec (Option α) (fun _ => E8 (Option α)) (fun b0 b1 b2 b3 b4 b5 b6 b7 => E8.mk b0 v b2 b3 b4 b5 b6 b7) a4) a5 a6 a7) a) b c)) t))
    (Acc.mk (fun t => t.a.c4.c2) (fun v t => @Tr.rec α (fun _ => Option (Tr α)) (fun a b c => some (Tr.mk (@E8.rec (E8 (Option α)) (fun _ => E8 (E8 (Option α))) (fun a0 a1 a2 a3 a4 a5 a6 a7 => E8.mk a0 a1 a2 a3 (@E8.rec (Option α) (fun _ => E8 (Option α)) (fun b0 b1 b2 b3 b4 b5 b6 b7 => E8.mk b0 b1 v b3 b4 b5 b6 b7) a4) a5 a6 a7) a) b c)) t))
    (Acc.mk (fun t => t.a.c4.c3) (fun v t => @Tr.rec α (fun _ => Option (Tr α)) (fun a b c => some (Tr.mk (@E8.rec (E8 (Option α)) (fun _ => E8 (E8 (Option α))) (fun a0 a1 a2 a3 a4 a5 a6 a7 => E8.mk a0 a1 a2 a3 (@E8.rec (Option α) (fun _ => E8 (Option α)) (fun b0 b1 b2 b3 b4 b5 b6 b7 => E8.mk b0 b1 b2 v b4 b5 b6 b7) a4) a5 a6 a7) a) b c)) t))
    (Acc.mk (fun t => t.a.c4.c4) (fun v t => @Tr.rec α (fun _ => Option (Tr α)) (fun a b c => some (Tr.mk (@E8.rec (E8 (Option α)) (fun _ => E8 (E8 (Option α))) (fun a0 a1 a2 a3 a4 a5 a6 a7 => E8.mk a0 a1 a2 a3 (@E8.rec (Option α) (fun _ => E8 (Option α)) (fun b0 b1 b2 b3 b4 b5 b6 b7 => E8.mk b0 b1 b2 b3 v b5 b6 b7) a4) a5 a6 a7) a) b c)) t))
    (Acc.mk (fun t => t.a.c4.c5) (fun v t => @Tr.rec α (fun _ => Option (Tr α)) (fun a b c => some (Tr.mk (@E8.rec (E8 (Option α)) (fun _ => E8 (E8 (Option α))) (fun a0 a1 a2 a3 a4 a5 a6 a7 => E8.mk a0 a1 a2 a3 (@E8.rec (Option α) (fun _ => E8 (Option α)) (fun b0 b1 b2 b3 b4 b5 b6 b7 => E8.mk b0 b1 b2 b3 b4 v b6 b7) a4) a5 a6 a7) a) b c)) t))
    (Acc.mk (fun t => t.a.c4.c6) (fun v t => @Tr.rec α (fun _ => Option (Tr α)) (fun a b c => some (Tr.mk (@E8.rec (E8 (Option α)) (fun _ => E8 (E8 (Option α))) (fun a0 a1 a2 a3 a4 a5 a6 a7 => E8.mk a0 a1 a2 a3 (@E8.rec (Option α) (fun _ => E8 (Option α)) (fun b0 b1 b2 b3 b4 b5 b6 b7 => E8.mk b0 b1 b2 b3 b4 b5 v b7) a4) a5 a6 a7) a) b c)) t))
    (Acc.mk (fun t => t.a.c4.c7) (fun v t => @Tr.rec α (fun _ => Option (Tr α)) (fun a b c => some (Tr.mk (@E8.rec (E8 (Option α)) (fun _ => E8 (E8 (Option α))) (fun a0 a1 a2 a3 a4 a5 a6 a7 => E8.mk a0 a1 a2 a3 (@E8.rec (Option α) (fun _ => E8 (Option α)) (fun b0 b1 b2 b3 b4 b5 b6 b7 => E8.mk b0 b1 b2 b3 b4 b5 b6 v) a4) a5 a6 a7) a) b c)) t)) l)
  (@D8.rec (fun _ => Acc α)
    (Acc.mk (fun t => t.a.c5.c0) (fun v t => @Tr.rec α (fun _ => Option (Tr α)) (fun a b c => some (Tr.mk (@E8.rec (E8 (Option α)) (fun _ => E8 (E8 (Option α))) (fun a0 a1 a2 a3 a4 a5 a6 a7 => E8.mk a0 a1 a2 a3 a4 (@E8.rec (Option α) (fun _ => E8 (Option α)) (fun b0 b1 b2 b3 b4 b5 b6 b7 => E8.mk v b1 b2 b3 b4 b5 b6 b7) a5) a6 a7) a) b c)) t))
    (Acc.mk (fun t => t.a.c5.c1) (fun v t => @Tr.rec α (fun _ => Option (Tr α)) (fun a b c => some (Tr.mk (@E8.rec (E8 (Option α)) (fun _ => E8 (E8 (Option α))) (fun a0 a1 a2 a3 a4 a5 a6 a7 => E8.mk a0 a1 a2 a3 a4 (@E8.rec (Option α) (fun _ => E8 (Option α)) (fun b0 b1 b2 b3 b4 b5 b6 b7 => E8.mk b0 v b2 b3 b4 b5 b6 b7) a5) a6 a7) a) b c)) t))
    (Acc.mk (fun t => t.a.c5.c2) (fun v t => @Tr.rec α (fun _ => Option (Tr α)) (fun a b c => some (Tr.mk (@E8.rec (E8 (Option α)) (fun _ => E8 (E8 (Option α))) (fun a0 a1 a2 a3 a4 a5 a6 a7 => E8.mk a0 a1 a2 a3 a4 (@E8.rec (Option α) (fun _ => E8 (Option α)) (fun b0 b1 b2 b3 b4 b5 b6 b7 => E8.mk b0 b1 v b3 b4 b5 b6 b7) a5) a6 a7) a) b c)) t))
    (Acc.mk (fun t => t.a.c5.c3) (fun v t => @Tr.rec α (fun _ => Option (Tr α)) (fun a b c => some (Tr.mk (@E8.rec (E8 (Option α)) (fun _ => E8 (E8 (Option α))) (fun a0 a1 a2 a3 a4 a5 a6 a7 => E8.mk a0 a1 a2 a3 a4 (@E8.rec (Option α) (fun _ => E8 (Option α)) (fun b0 b1 b2 b3 b4 b5 b6 b7 => E8.mk b0 b1 b2 v b4 b5 b6 b7) a5) a6 a7) a) b c)) t))
    (Acc.mk (fun t => t.a.c5.c4) (fun v t => @Tr.rec α (fun _ => Option (Tr α)) (fun a b c => some (Tr.mk (@E8.rec (E8 (Option α)) (fun _ => E8 (E8 (Option α))) (fun a0 a1 a2 a3 a4 a5 a6 a7 => E8.mk a0 a1 a2 a3 a4 (@E8.rec (Option α) (fun _ => E8 (Option α)) (fun b0 b1 b2 b3 b4 b5 b6 b7 => E8.mk b0 b1 b2 b3 v b5 b6 b7) a5) a6 a7) a) b c)) t))
    (Acc.mk (fun t => t.a.c5.c5) (fun v t => @Tr.rec α (fun _ => Option (Tr α)) (fun a b c => some (Tr.mk (@E8.rec (E8 (Option α)) (fun _ => E8 (E8 (Option α))) (fun a0 a1 a2 a3 a4 a5 a6 a7 => E8.mk a0 a1 a2 a3 a4 (@E8.rec (Option α) (fun _ => E8 (Option α)) (fun b0 b1 b2 b3 b4 b5 b6 b7 => E8.mk b0 b1 b2 b3 b4 v b6 b7) a5) a6 a7) a) b c)) t))
    (Acc.mk (fun t => t.a.c5.c6) (fun v t => @Tr.rec α (fun _ => Option (Tr α)) (fun a b c => some (Tr.mk (@E8.rec (E8 (Option α)) (fun _ => E8 (E8 (Option α))) (fun a0 a1 a2 a3 a4 a5 a6 a7 => E8.mk a0 a1 a2 a3 a4 (@E8.rec (Option α) (fun _ => E8 (Option α)) (fun b0 b1 b2 b3 b4 b5 b6 b7 => E8.mk b0 b1 b2 b3 b4 b5 v b7) a5) a6 a7) a) b c)) t))
    (Acc.mk (fun t => t.a.c5.c7) (fun v t => @Tr.rec α (fun _ => Option (Tr α)) (fun a b c => some (Tr.mk (@E8.rec (E8 (Option α)) (fun _ => E8 (E8 (Option α))) (fun a0 a1 a2 a3 a4 a5 a6 a7 => E8.mk a0 a1 a2 a3 a4 (@E8.rec (Option α) (fun _ => E8 (Option α)) (fun b0 b1 b2 b3 b4 b5 b6 b7 => E8.mk b0 b1 b2 b3 b4 b5 b6 v) a5) a6 a7) a) b c)) t)) l)
  (@D8.rec (fun _ => Acc α)
    (Acc.mk (fun t => t.a.c6.c0) (fun v t => @Tr.rec α (fun _ => Option (Tr α)) (fun a b c => some (Tr.mk (@E8.rec (E8 (Option α)) (fun _ => E8 (E8 (Option α))) (fun a0 a1 a2 a3 a4 a5 a6 a7 => E8.mk a0 a1 a2 a3 a4 a5 (@E8.rec (Option α) (fun _ => E8 (Option α)) (fun b0 b1 b2 b3 b4 b5 b6 b7 => E8.mk v b1 b2 b3 b4 b5 b6 b7) a6) a7) a) b c)) t))
    (Acc.mk (fun t => t.a.c6.c1) (fun v t => @Tr.rec α (fun _ => Option (Tr α)) (fun a b c => some (Tr.mk (@E8.rec (E8 (Option α)) (fun _ => E8 (E8 (Option α))) (fun a0 a1 a2 a3 a4 a5 a6 a7 => E8.mk a0 a1 a2 a3 a4 a5 (@E8.rec (Option α) (fun _ => E8 (Option α)) (fun b0 b1 b2 b3 b4 b5 b6 b7 => E8.mk b0 v b2 b3 b4 b5 b6 b7) a6) a7) a) b c)) t))
    (Acc.mk (fun t => t.a.c6.c2) (fun v t => @Tr.rec α (fun _ => Option (Tr α)) (fun a b c => some (Tr.mk (@E8.rec (E8 (Option α)) (fun _ => E8 (E8 (Option α))) (fun a0 a1 a2 a3 a4 a5 a6 a7 => E8.mk a0 a1 a2 a3 a4 a5 (@E8.rec (Option α) (fun _ => E8 (Option α)) (fun b0 b1 b2 b3 b4 b5 b6 b7 => E8.mk b0 b1 v b3 b4 b5 b6 b7) a6) a7) a) b c)) t))
    (Acc.mk (fun t => t.a.c6.c3) (fun v t => @Tr.rec α (fun _ => Option (Tr α)) (fun a b c => some (Tr.mk (@E8.rec (E8 (Option α)) (fun _ => E8 (E8 (Option α))) (fun a0 a1 a2 a3 a4 a5 a6 a7 => E8.mk a0 a1 a2 a3 a4 a5 (@E8.rec (Option α) (fun _ => E8 (Option α)) (fun b0 b1 b2 b3 b4 b5 b6 b7 => E8.mk b0 b1 b2 v b4 b5 b6 b7) a6) a7) a) b c)) t))
    (Acc.mk (fun t => t.a.c6.c4) (fun v t => @Tr.rec α (fun _ => Option (Tr α)) (fun a b c => some (Tr.mk (@E8.rec (E8 (Option α)) (fun _ => E8 (E8 (Option α))) (fun a0 a1 a2 a3 a4 a5 a6 a7 => E8.mk a0 a1 a2 a3 a4 a5 (@E8.rec (Option α) (fun _ => E8 (Option α)) (fun b0 b1 b2 b3 b4 b5 b6 b7 => E8.mk b0 b1 b2 b3 v b5 b6 b7) a6) a7) a) b c)) t))
    (Acc.mk (fun t => t.a.c6.c5) (fun v t => @Tr.rec α (fun _ => Option (Tr α)) (fun a b c => some (Tr.mk (@E8.rec (E8 (Option α)) (fun _ => E8 (E8 (Option α))) (fun a0 a1 a2 a3 a4 a5 a6 a7 => E8.mk a0 a1 a2 a3 a4 a5 (@E8.rec (Option α) (fun _ => E8 (Option α)) (fun b0 b1 b2 b3 b4 b5 b6 b7 => E8.mk b0 b1 b2 b3 b4 v b6 b7) a6) a7) a) b c)) t))
    (Acc.mk (fun t => t.a.c6.c6) (fun v t => @Tr.rec α (fun _ => Option (Tr α)) (fun a b c => some (Tr.mk (@E8.rec (E8 (Option α)) (fun _ => E8 (E8 (Option α))) (fun a0 a1 a2 a3 a4 a5 a6 a7 => E8.mk a0 a1 a2 a3 a4 a5 (@E8.rec (Option α) (fun _ => E8 (Option α)) (fun b0 b1 b2 b3 b4 b5 b6 b7 => E8.mk b0 b1 b2 b3 b4 b5 v b7) a6) a7) a) b c)) t))
    (Acc.mk (fun t => t.a.c6.c7) (fun v t => @Tr.rec α (fun _ => Option (Tr α)) (fun a b c => some (Tr.mk (@E8.rec (E8 (Option α)) (fun _ => E8 (E8 (Option α))) (fun a0 a1 a2 a3 a4 a5 a6 a7 => E8.mk a0 a1 a2 a3 a4 a5 (@E8.rec (Option α) (fun _ => E8 (Option α)) (fun b0 b1 b2 b3 b4 b5 b6 b7 => E8.mk b0 b1 b2 b3 b4 b5 b6 v) a6) a7) a) b c)) t)) l)
  (@D8.rec (fun _ => Acc α)
    (Acc.mk (fun t => t.a.c7.c0) (fun v t => @Tr.rec α (fun _ => Option (Tr α)) (fun a b c => some (Tr.mk (@E8.rec (E8 (Option α)) (fun _ => E8 (E8 (Option α))) (fun a0 a1 a2 a3 a4 a5 a6 a7 => E8.mk a0 a1 a2 a3 a4 a5 a6 (@E8.rec (Option α) (fun _ => E8 (Option α)) (fun b0 b1 b2 b3 b4 b5 b6 b7 => E8.mk v b1 b2 b3 b4 b5 b6 b7) a7)) a) b c)) t))
    (Acc.mk (fun t => t.a.c7.c1) (fun v t => @Tr.rec α (fun _ => Option (Tr α)) (fun a b c => some (Tr.mk (@E8.rec (E8 (Option α)) (fun _ => E8 (E8 (Option α))) (fun a0 a1 a2 a3 a4 a5 a6 a7 => E8.mk a0 a1 a2 a3 a4 a5 a6 (@E8.rec (Option α) (fun _ => E8 (Option α)) (fun b0 b1 b2 b3 b4 b5 b6 b7 => E8.mk b0 v b2 b3 b4 b5 b6 b7) a7)) a) b c)) t))
    (Acc.mk (fun t => t.a.c7.c2) (fun v t => @Tr.rec α (fun _ => Option (Tr α)) (fun a b c => some (Tr.mk (@E8.rec (E8 (Option α)) (fun _ => E8 (E8 (Option α))) (fun a0 a1 a2 a3 a4 a5 a6 a7 => E8.mk a0 a1 a2 a3 a4 a5 a6 (@E8.rec (Option α) (fun _ => E8 (Option α)) (fun b0 b1 b2 b3 b4 b5 b6 b7 => E8.mk b0 b1 v b3 b4 b5 b6 b7) a7)) a) b c)) t))
    (Acc.mk (fun t => t.a.c7.c3) (fun v t => @Tr.rec α (fun _ => Option (Tr α)) (fun a b c => some (Tr.mk (@E8.rec (E8 (Option α)) (fun _ => E8 (E8 (Option α))) (fun a0 a1 a2 a3 a4 a5 a6 a7 => E8.mk a0 a1 a2 a3 a4 a5 a6 (@E8.rec (Option α) (fun _ => E8 (Option α)) (fun b0 b1 b2 b3 b4 b5 b6 b7 => E8.mk b0 b1 b2 v b4 b5 b6 b7) a7)) a) b c)) t))
    (Acc.mk (fun t => t.a.c7.c4) (fun v t => @Tr.rec α (fun _ => Option (Tr α)) (fun a b c => some (Tr.mk (@E8.rec (E8 (Option α)) (fun _ => E8 (E8 (Option α))) (fun a0 a1 a2 a3 a4 a5 a6 a7 => E8.mk a0 a1 a2 a3 a4 a5 a6 (@E8.rec (Option α) (fun _ => E8 (Option α)) (fun b0 b1 b2 b3 b4 b5 b6 b7 => E8.mk b0 b1 b2 b3 v b5 b6 b7) a7)) a) b c)) t))
    (Acc.mk (fun t => t.a.c7.c5) (fun v t => @Tr.rec α (fun _ => Option (Tr α)) (fun a b c => some (Tr.mk (@E8.rec (E8 (Option α)) (fun _ => E8 (E8 (Option α))) (fun a0 a1 a2 a3 a4 a5 a6 a7 => E8.mk a0 a1 a2 a3 a4 a5 a6 (@E8.rec (Option α) (fun _ => E8 (Option α)) (fun b0 b1 b2 b3 b4 b5 b6 b7 => E8.mk b0 b1 b2 b3 b4 v b6 b7) a7)) a) b c)) t))
    (Acc.mk (fun t => t.a.c7.c6) (fun v t => @Tr.rec α (fun _ => Option (Tr α)) (fun a b c => some (Tr.mk (@E8.rec (E8 (Option α)) (fun _ => E8 (E8 (Option α))) (fun a0 a1 a2 a3 a4 a5 a6 a7 => E8.mk a0 a1 a2 a3 a4 a5 a6 (@E8.rec (Option α) (fun _ => E8 (Option α)) (fun b0 b1 b2 b3 b4 b5 b6 b7 => E8.mk b0 b1 b2 b3 b4 b5 v b7) a7)) a) b c)) t))
    (Acc.mk (fun t => t.a.c7.c7) (fun v t => @Tr.rec α (fun _ => Option (Tr α)) (fun a b c => some (Tr.mk (@E8.rec (E8 (Option α)) (fun _ => E8 (E8 (Option α))) (fun a0 a1 a2 a3 a4 a5 a6 a7 => E8.mk a0 a1 a2 a3 a4 a5 a6 (@E8.rec (Option α) (fun _ => E8 (Option α)) (fun b0 b1 b2 b3 b4 b5 b6 b7 => E8.mk b0 b1 b2 b3 b4 b5 b6 v) a7)) a) b c)) t)) l) h
def accA (n : Nat) : Acc α := accT (dig8 (Nat.div n 8)) (dig8 (Nat.mod n 8))
theorem accT_g (h l : D8) (t : Tr α) : (accT h l).g t = (acc2 h l).g t.a := by cases h <;> cases l <;> rfl
theorem accT_s (h l : D8) (v : Option α) (t : Tr α) : (accT h l).s v t = some (Tr.mk ((acc2 h l).s v t.a) t.b t.c) := by cases t; cases h <;> cases l <;> rfl
theorem accA_s (n : Nat) (v : Option α) (t : Tr α) : (accA n).s v t = some (Tr.mk ((acc64 n).s v t.a) t.b t.c) := accT_s _ _ v t
def accB (k : Nat) : Acc α := Acc.mk (fun t => (acc64 (Nat.mod k 64)).g ((acc64 (Nat.div k 64)).g t.b)) (fun v t => @Tr.rec α (fun _ => Option (Tr α)) (fun a b c => some (Tr.mk a ((acc64 (Nat.div k 64)).s ((acc64 (Nat.mod k 64)).s v ((acc64 (Nat.div k 64)).g b)) b) c)) t)
def accC (k : Nat) : Acc α := Acc.mk (fun t => gC k t.c) (fun v t => @Tr.rec α (fun _ => Option (Tr α)) (fun a b c => some (Tr.mk a b (sC k v c))) t)
def accN : Acc α := Acc.mk (fun _ => none) (fun _ _ => none)
def acc (n : Nat) : Acc α := @Bool.rec (fun _ => Acc α) (@Bool.rec (fun _ => Acc α) (@Bool.rec (fun _ => Acc α) accN (accC (Nat.sub n 4160)) (Nat.blt n 266304)) (accB (Nat.sub n 64)) (Nat.blt n 4160)) (accA n) (Nat.blt n 64)
def Tr.nil : Tr α := Tr.mk (.all (.all none)) (.all (.all (.all (.all none)))) (.all (.all (.all (.all (.all (.all none))))))
def Tr.get (t : Tr α) (n : Nat) : Option α := (acc n).g t
def Tr.set (_ : Nat) (t : Tr α) (n : Nat) (v : Option α) : Option (Tr α) := (acc n).s v t
theorem acc_A {n : Nat} (h : n < 64) : (acc n : Acc α) = accA n := by
  unfold acc; rw [show Nat.blt n 64 = true from by simpa [Nat.blt_eq] using h]
theorem blt_no {n m : Nat} (h : ¬ n < m) : Nat.blt n m = false := by
  cases hb : Nat.blt n m with
  | false => rfl
  | true => exact absurd (by simpa [Nat.blt_eq] using hb) h
theorem acc_B {n : Nat} (h : ¬ n < 64) (h2 : n < 4160) : (acc n : Acc α) = accB (Nat.sub n 64) := by
  unfold acc; rw [blt_no h, show Nat.blt n 4160 = true from by simpa [Nat.blt_eq] using h2]
theorem acc_C {n : Nat} (h : ¬ n < 4160) (h2 : n < 266304) : (acc n : Acc α) = accC (Nat.sub n 4160) := by
  unfold acc; rw [blt_no (show ¬ n < 64 by omega), blt_no h, show Nat.blt n 266304 = true from by simpa [Nat.blt_eq] using h2]
theorem acc_N {n : Nat} (h : ¬ n < 266304) : (acc n : Acc α) = accN := by
  unfold acc; rw [blt_no (show ¬ n < 64 by omega), blt_no (show ¬ n < 4160 by omega), blt_no h]
theorem sel_all {β : Type} (i : D8) (x : β) : sel8 i (E8.all x) = x := by cases i <;> rfl
theorem acc64_all {β : Type} (n : Nat) (x : β) : (acc64 n).g (E8.all (E8.all x)) = x := by unfold acc64; rw [acc2_g, sel_all, sel_all]
theorem gB_all {β : Type} (n : Nat) (x : β) : gB n (E8.all (E8.all (E8.all (E8.all x)))) = x := by unfold gB; rw [acc64_all, acc64_all]
theorem accA_g (k : Nat) (t : Tr α) : (accA k).g t = (acc64 k).g t.a := accT_g _ _ t
theorem accB_g (k : Nat) (t : Tr α) : (accB k).g t = gB k t.b := rfl
theorem accC_g (k : Nat) (t : Tr α) : (accC k).g t = gC k t.c := rfl
theorem nil_a : (Tr.nil : Tr α).a = E8.all (E8.all none) := rfl
theorem nil_b : (Tr.nil : Tr α).b = E8.all (E8.all (E8.all (E8.all none))) := rfl
theorem nil_c : (Tr.nil : Tr α).c = E8.all (E8.all (E8.all (E8.all (E8.all (E8.all none))))) := rfl
theorem nil_A (n : Nat) : (accA n).g (Tr.nil : Tr α) = none := by rw [accA_g, nil_a, acc64_all]
theorem nil_B (n : Nat) : (accB n).g (Tr.nil : Tr α) = none := by rw [accB_g, nil_b, gB_all]
theorem nil_C (n : Nat) : (accC n).g (Tr.nil : Tr α) = none := by rw [accC_g, nil_c]; unfold gC; rw [gB_all, acc64_all]
theorem Tr.get_nil (n : Nat) : (Tr.nil : Tr α).get n = none := by
  unfold Tr.get
  by_cases h1 : n < 64
  · rw [acc_A h1, nil_A]
  by_cases h2 : n < 4160
  · rw [acc_B h1 h2, nil_B]
  by_cases h3 : n < 266304
  · rw [acc_C h2 h3, nil_C]
  · rw [acc_N h3]; rfl
theorem sub_lt64 {n : Nat} (h : n < 4160) : Nat.sub n 64 < 4096 := by have e : Nat.sub n 64 = n - 64 := Nat.sub_eq; rw [e]; omega
theorem sub_lt41 {n : Nat} (h : n < 266304) : Nat.sub n 4160 < 262144 := by have e : Nat.sub n 4160 = n - 4160 := Nat.sub_eq; rw [e]; omega
theorem sub_ne {n m k : Nat} (hn : ¬ n < k) (hm : ¬ m < k) (h : n ≠ m) : Nat.sub n k ≠ Nat.sub m k := by
  have e : Nat.sub n k = n - k := Nat.sub_eq
  have e2 : Nat.sub m k = m - k := Nat.sub_eq
  rw [e, e2]; omega
theorem Tr.get_set (f : Nat) (t t' : Tr α) (n : Nat) (v : Option α) (h : Tr.set f t n v = some t') (m : Nat) : t'.get m = if m = n then v else t.get m := by
  unfold Tr.set at h
  unfold Tr.get
  obtain ⟨a, b, c⟩ := t
  by_cases n1 : n < 64
  · rw [acc_A n1, accA_s] at h
    have h : some (Tr.mk ((acc64 n).s v a) b c) = some t' := h
    cases h
    by_cases e : m = n
    · subst e; rw [if_pos rfl, acc_A n1, accA_g]; exact acc64_same m v a
    · rw [if_neg e]
      by_cases m1 : m < 64
      · rw [acc_A m1, accA_g, accA_g]; exact acc64_ne m n m1 n1 e v a
      by_cases m2 : m < 4160
      · rw [acc_B m1 m2]; rfl
      by_cases m3 : m < 266304
      · rw [acc_C m2 m3]; rfl
      · rw [acc_N m3]; rfl
  by_cases n2 : n < 4160
  · rw [acc_B n1 n2] at h
    have h : some (Tr.mk a (sB (Nat.sub n 64) v b) c) = some t' := h
    cases h
    by_cases e : m = n
    · subst e; rw [if_pos rfl, acc_B n1 n2]; exact gB_same (Nat.sub m 64) v b
    · rw [if_neg e]
      by_cases m1 : m < 64
      · rw [acc_A m1, accA_g, accA_g]
      by_cases m2 : m < 4160
      · rw [acc_B m1 m2]; exact gB_ne (Nat.sub m 64) (Nat.sub n 64) (sub_lt64 m2) (sub_lt64 n2) (sub_ne m1 n1 e) v b
      by_cases m3 : m < 266304
      · rw [acc_C m2 m3]; rfl
      · rw [acc_N m3]; rfl
  by_cases n3 : n < 266304
  · rw [acc_C n2 n3] at h
    have h : some (Tr.mk a b (sC (Nat.sub n 4160) v c)) = some t' := h
    cases h
    by_cases e : m = n
    · subst e; rw [if_pos rfl, acc_C n2 n3]; exact gC_same (Nat.sub m 4160) v c
    · rw [if_neg e]
      by_cases m1 : m < 64
      · rw [acc_A m1, accA_g, accA_g]
      by_cases m2 : m < 4160
      · rw [acc_B m1 m2]; rfl
      by_cases m3 : m < 266304
      · rw [acc_C m2 m3]; exact gC_ne (Nat.sub m 4160) (Nat.sub n 4160) (sub_lt41 m3) (sub_lt41 n3) (sub_ne m2 n2 e) v c
      · rw [acc_N m3]; rfl
  · rw [acc_N n3] at h
    have h : (none : Option (Tr α)) = some t' := h
    cases h
/-- The number is told first: the same term for the same number. -/
def atNum {γ : Type} (n : Nat) (k : Nat → γ) : γ := @Nat.rec (fun _ => γ) (k 0) (fun m _ => k (Nat.succ m)) n
theorem atNum_eq {γ : Type} (n : Nat) (k : Nat → γ) : atNum n k = k n := by cases n <;> rfl
theorem casesMod {β : Type} (n : Nat) (a b : β) : (@Nat.rec (fun _ => β) a (fun _ _ => b) n) = if n = 0 then a else b := by
  cases n with
  | zero => rfl
  | succ n => rw [if_neg (by omega)]
end
end Ev
end Go.Proofs.YtepdkcikkemieaaGreat
