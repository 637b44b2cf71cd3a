/- console: without a world: Do, Told, Session. -/
import Derived.Test.YtifoekadjnlhcaaGreatDoorNA
import Derived.Test.YtifoekadjnlhcaaGreatDoorNB
import Derived.Test.YtifoekadjnlhcaaGreatDoorMW
namespace Go.Proofs.YtifoekadjnlhcaaGreatDoor
open Go.ChangeShapes Go.WideShapes Go.ChangeAt Go.RowKit
set_option linter.unusedVariables false
set_option linter.unusedSimpArgs false
abbrev respZ : Array Value := #[.int .u8 0, .int .i64 0, .int .i64 0, .int .i64 0, .bool false, .int .i64 0, .slice none 0 0, .slice none 0 0, .slice none 0 0]
set_option maxRecDepth 100000 in
set_option maxHeartbeats 1600000 in
theorem do_nil (s : Stp) (a f : Option Addr) (cap fc : Nat) (w : World) : Calls Tryz.prog 20 #[.pointer none, .agg (stp s a cap f fc)] w fun e w' => e = .returned (.tuple #[.agg respZ, .int .i64 1]) ∧ More w w' := by
  refine calls_wd ?_
  go_enter Tryz.func20, Tryz.ntmps20
  go_wp2
  refine bodyPost_ret (v := .tuple #[.agg respZ, .int .i64 1]) (by first | (simp [results, Tryz.results20, go_sem]; done) | (simp [results, Tryz.results20, go_sem]; rfl)) rfl ?_
  exact ⟨rfl, more_wd _ _ _⟩
/-- Lines that a call tells. -/
structure LinesRet (w w' : World) (e : Ending) (ls : List Word) : Prop where
  out : ∃ v x n, e = .returned v ∧ w' = plus w x n ∧ SRd w' v ls
theorem srd_one (w : World) (L : List (Array Obj)) (n : Nat) (s : Word) (fr : Nat × Nat) (hs : s.length ≤ 1099511627776) : SRd (wd w (#[.cells #[.string (str s)] 9 fr] :: L) n) (.slice (some ⟨sz w.heap.size (shape L), 0, none⟩) 1 1) [s] := by
  have hb := wd_at w L n _ _ (.cells #[.string (str s)] 9 fr) rfl rfl
  refine ⟨⟨_, 1, rfl, Nat.le_refl _, by decide, fun _ => ⟨_, 0, rfl, (Array.getElem?_eq_some_iff.1 hb).1, fun i t hi => ?_⟩⟩, fun t ht => by simp at ht; rw [ht]; exact hs⟩
  match i, hi with
  | 0, hi => simp only [List.getElem?_cons_zero, Option.some.injEq] at hi; subst hi; simp [World.cell?, hb]
theorem lines_one {w : World} {L : List (Array Obj)} {n : Nat} {s : Word} {fr : Nat × Nat} (hs : s.length ≤ 1099511627776) : LinesRet w (wd w (#[.cells #[.string (str s)] 9 fr] :: L) n) (.returned (.slice (some ⟨sz w.heap.size (shape L), 0, none⟩) 1 1)) [s] := by
  obtain ⟨x, m, h⟩ := more_wd w (#[.cells #[.string (str s)] 9 fr] :: L) n
  exact ⟨_, x, m, rfl, h, srd_one w L n s fr hs⟩
theorem digI_1 : digI 1 = [49] := by unfold digI; rw [if_neg (by decide)]; exact digs_lt (by decide)
set_option maxRecDepth 100000 in
set_option maxHeartbeats 1600000 in
theorem told_nil (s : Stp) (a f : Option Addr) (cap fc : Nat) (w : World) : Calls Tryz.prog 18 #[.agg (stp s a cap f fc), .agg respZ, .int .i64 1] w fun e w' => LinesRet w w' e [[101, 114, 114, 111, 114, 32, 49]] := by
  have HD := Lib.hid (fun w => cdig_any 1 (by decide) (by decide) w)
  rw [digI_1] at HD
  have ha := sadd (P := Tryz.prog) [101, 114, 114, 111, 114, 32] [49] (by simp)
  rw [show str [101, 114, 114, 111, 114, 32] = { data := #[101, 114, 114, 111, 114, 32] } from rfl] at ha
  refine calls_wd ?_
  go_enter Tryz.func18, Tryz.ntmps18
  go_wp2_with (first | (go_at_call 13; ((with_reducible refine (HD.out _).mono ?_); rintro e w1 ⟨rfl, x1, n1, rfl⟩)))
  go_ret
  exact lines_one (by simp)
theorem sess_nil (W : World) : Calls Tryz.prog 21 #[.pointer none, .string { data := #[] }] W fun e w' => e = .returned (.string { data := #[] }) ∧ More W w' := by
  obtain ⟨H, h⟩ := Ev.of_isOk Ev.nil_run
  exact Ev.call_more Ev.follows Ev.fnC_ok 3000 h rfl (fun _ => none) rfl W
end Go.Proofs.YtifoekadjnlhcaaGreatDoor
/- ConsoleNobody: the law's walk. -/
namespace Go.Proofs.YtifoekadjnlhcaaGreatDoor
open Go.ChangeShapes Go.WideShapes Go.ChangeAt Go.RowKit
set_option linter.unusedVariables false
set_option linter.unusedSimpArgs false
set_option maxRecDepth 100000 in
set_option maxHeartbeats 1600000 in
theorem nobody_walk (l : List UInt8) (w : World) (hl : l.length ≤ maxLen) : Calls Tryz.prog 5 #[.string (str l)] w fun x w' => x = .returned (.bool true) ∧ More w w' := by
  have hsz := str_size l
  unfold maxLen at hl
  by_cases h3 : 1000 < l.length
  · refine calls_wd ?_
    go_enter Tryz.func5, Tryz.ntmps5
    go_wp2_with (first | (go_at_call 6; ((with_reducible refine (awake28 _).mono ?_); rintro e w1 ⟨rfl, x1, n1, rfl⟩)))
    go_ret
    exact ⟨rfl, more_wd _ _ _⟩
  · have HP := Lib.hid (fun W => parse_any l W (by omega))
    cases hp : parseW l with
    | none =>
      have HN := Lib.hid hp
      clear hp
      refine calls_wd ?_
      go_enter Tryz.func5, Tryz.ntmps5
      go_wp2_with (first
        | (go_at_call 7; refine (HP.out _).mono ?_; rintro e w1 hs; have hs2 := hs.out; rw [HN.out] at hs2; obtain ⟨rfl, x0, n0, rfl⟩ := hs2; clear hs)
        | (go_at_call 6; ((with_reducible refine (awake28 _).mono ?_); rintro e w1 ⟨rfl, x1, n1, rfl⟩)))
      go_ret
      exact ⟨rfl, more_wd _ _ _⟩
    | some s =>
      have HN := Lib.hid hp
      have hqe : ((str [101, 114, 114, 111, 114, 32, 49]).toList == [101, 114, 114, 111, 114, 32, 49]) = true := by rw [str_toList]; decide
      clear hp
      refine calls_wd ?_
      go_enter Tryz.func5, Tryz.ntmps5
      go_wp2_with (first
        | (go_at_call 7; refine (HP.out _).mono ?_; rintro e w1 hs; have hs2 := hs.out; rw [HN.out] at hs2; obtain ⟨a, cap, f, fc, rfl, ⟨x0, n0, rfl⟩, -, -, -⟩ := hs2; clear hs)
        | (go_at_call 20; ((with_reducible refine (do_nil _ _ _ _ _ _).mono ?_); rintro e w1 ⟨rfl, x1, n1, rfl⟩))
        | (go_at_call 18; refine (told_nil _ _ _ _ _ _).mono ?_; rintro e w1 hs; obtain ⟨v7, x7, n7, rfl, rfl, hsr⟩ := hs.out; rw [wd_plus] at hsr; obtain ⟨a7, c7, rfl, -, -, hc7⟩ := hsr.out; obtain ⟨b7, o7, rfl, hb7, hc8⟩ := hc7 (by simp); have hc9 := hc8 0 _ rfl; rw [Nat.add_zero] at hc9; clear hs hsr hc7 hc8)
        | (go_at_call 21; ((with_reducible refine (sess_nil _).mono ?_); rintro e w1 ⟨rfl, x1, n1, rfl⟩))
        | (go_at_call 6; ((with_reducible refine (awake28 _).mono ?_); rintro e w1 ⟨rfl, x1, n1, rfl⟩)))
      go_ret
      exact ⟨rfl, more_wd _ _ _⟩
end Go.Proofs.YtifoekadjnlhcaaGreatDoor
