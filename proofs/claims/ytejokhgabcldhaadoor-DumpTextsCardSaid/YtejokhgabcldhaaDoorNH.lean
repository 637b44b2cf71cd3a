/- dump: digits, both; joined words. -/
import Derived.Test.YtejokhgabcldhaaDoorNE
import Derived.Test.YtejokhgabcldhaaDoorNA
import Derived.Test.YtejokhgabcldhaaDoorShelf
namespace Go.Proofs.YtejokhgabcldhaaDoor
open Go.ChangeShapes Go.WideShapes Go.ChangeAt Go.RowKit
set_option linter.unusedVariables false
set_option linter.unusedSimpArgs false

/-- 'string([]byte{b})', the slice laid just now. -/
theorem lit_str (w : World) (L : List (Array Obj)) (n : Nat) (b : Int) (c : UInt8) (hb : b = c.toNat) : (convert 49 9 (.slice (some ⟨sz w.heap.size (shape L), 0, none⟩) 1 1)).run Tryd.prog (wd w (#[.cells #[.int .u8 b] 5] :: L) n) = .ok (.string (str [c])) (wd w (#[.cells #[.int .u8 b] 5] :: L) n) := by
  subst hb
  refine RB.run_str (l := [c]) (RB.of_block (wd_at w L n w.heap.size (shape L) _ rfl rfl) [c] 1 (by simp) (by decide) (fun i hi => ?_)) _ _ _ Tryd.underlying49 Tryd.underlying5 Tryd.underlying9
  match i, hi with
  | 0, _ => rfl
theorem lit_str0 (w : World) (n : Nat) (b : Int) (c : UInt8) (hb : b = c.toNat) : (convert 49 9 (.slice (some ⟨sz w.heap.size [], 0, none⟩) 1 1)).run Tryd.prog (wd w [#[.cells #[.int .u8 b] 5]] n) = .ok (.string (str [c])) (wd w [#[.cells #[.int .u8 b] 5]] n) := lit_str w [] n b c hb
/-- The last digit. -/
def decB (n : Nat) : UInt8 := UInt8.ofNat (48 + n % 10)
theorem digs_lt {n : Nat} (h : n < 10) : digs n = [decB n] := by rw [digs_small h]; unfold decB; rw [Nat.mod_eq_of_lt h]
theorem digs_ge {n : Nat} (h : ¬ n < 10) : digs n = digs (n / 10) ++ [decB n] := digs_big h
theorem digit_byte (n : Nat) : (48 : Int) + (n : Int) % 10 = (decB n).toNat := by
  unfold decB
  have : (UInt8.ofNat (48 + n % 10)).toNat = 48 + n % 10 := by simp; omega
  omega
set_option maxRecDepth 100000 in
set_option maxHeartbeats 1600000 in
theorem digs_any (n : Nat) (hn : n ≤ 4611686018427387910) : ∀ w : World, Calls Tryd.prog 34 #[.int .i64 n] w fun x w' => x = .returned (.string (str (digs n))) ∧ More w w' := by
  induction n using Nat.strongRecOn with
  | _ n ih =>
    intro w
    have hls := fun k => lit_str0 w k _ _ (digit_byte n)
    by_cases h10 : n < 10
    · have hd := Lib.hid (digs_lt h10)
      clear ih
      refine calls_wd ?_
      go_enter Tryd.func34, Tryd.ntmps34
      go_wp2
      go_ret
      exact ⟨by rw [hd.out]; rfl, more_wd _ _ _⟩
    · have hd := Lib.hid (digs_ge h10)
      have H := Lib.hid (ih (n / 10) (by omega) (by omega))
      rw [show ((n / 10 : Nat) : Int) = (n : Int) / 10 by omega] at H
      have hlen : (digs (n / 10)).length ≤ 19 := digs_len 18 (n / 10) (by have : (4611686018427387910 : Nat) < 10 ^ (18 + 1) := by decide
                                                                          omega)
      have ha := sadd (P := Tryd.prog) (digs (n / 10)) [decB n] (by simp; omega)
      have h10' : ¬ (n : Int) < 10 := by omega
      clear ih
      refine calls_wd ?_
      go_enter Tryd.func34, Tryd.ntmps34
      go_wp2_with (first | (go_at_call 34; ((with_reducible refine (H.out _).mono ?_); rintro e w1 ⟨rfl, x1, n1, rfl⟩)))
      go_ret
      exact ⟨by rw [hd.out]; rfl, more_wd _ _ _⟩
set_option maxRecDepth 100000 in
set_option maxHeartbeats 1600000 in
theorem dig_any (n : Int) (h1 : -1 ≤ n) (h2 : n ≤ 4611686018427387910) (w : World) : Calls Tryd.prog 34 #[.int .i64 n] w fun x w' => x = .returned (.string (str (digN n))) ∧ More w w' := by
  by_cases h0 : n < 0
  · obtain rfl : n = -1 := by omega
    have H : Hid (∀ w, Calls Tryd.prog 34 #[.int .i64 1] w fun x w' => x = .returned (.string (str (digs 1))) ∧ More w w') := Lib.hid (digs_any 1 (by omega))
    have ha := sadd (P := Tryd.prog) [45] (digs 1) (by rw [digs_small (by decide)]; simp)
    rw [show str [45] = { data := #[45] } from rfl] at ha
    have hd := Lib.hid (show digN (-1) = [45] ++ digs 1 from rfl)
    refine calls_wd ?_
    go_enter Tryd.func34, Tryd.ntmps34
    go_wp2_with (first | (go_at_call 34; ((with_reducible refine (H.out _).mono ?_); rintro e w1 ⟨rfl, x1, n1, rfl⟩)))
    go_ret
    exact ⟨by rw [hd.out]; rfl, more_wd _ _ _⟩
  · have h := digs_any n.toNat (by omega) w
    rw [show ((n.toNat : Nat) : Int) = n by omega] at h
    have e : digN n = digs n.toNat := by unfold digN; rw [if_neg h0]
    rw [e]; exact h
theorem dec_slice (W : World) (n : Nat) : (Instr.slice 9 (.string { data := #[48, 49, 50, 51, 52, 53, 54, 55, 56, 57] }) (some (.int .i64 ((n : Int) % 10))) (some (.int .i64 ((n : Int) % 10 + 1))) none).run Tryd.prog W = .ok (.string (str [decB n])) W := by
  have h := sslice (P := Tryd.prog) 9 Tryd.underlying9 [48, 49, 50, 51, 52, 53, 54, 55, 56, 57] .i64 .i64 (n % 10) (n % 10 + 1) (by omega) (by simp; omega) W
  rw [show (((n % 10 + 1 : Nat)) : Int) = (n : Int) % 10 + 1 by omega, show (((n % 10 : Nat)) : Int) = (n : Int) % 10 by omega] at h
  rw [show str [48, 49, 50, 51, 52, 53, 54, 55, 56, 57] = { data := #[48, 49, 50, 51, 52, 53, 54, 55, 56, 57] } from rfl] at h
  have hg : ∀ k, k < 10 → ([48, 49, 50, 51, 52, 53, 54, 55, 56, 57] : List UInt8)[k]? = some (UInt8.ofNat (48 + k)) := by decide
  rw [h, take_drop_one _ (n % 10) (decB n) (hg _ (by omega))]
/-- Digits that were told, and what is left. -/
def digRest (n k : Nat) (G : List UInt8) : Prop := (G = [] ∧ k = n) ∨ (G ≠ [] ∧ digs n = (if k = 0 then [] else digs k) ++ G)
theorem digRest_step {n k : Nat} {G : List UInt8} (h : digRest n k G) (hg : 0 < k ∨ G = []) : digRest n (k / 10) (decB k :: G) := by
  right
  refine ⟨by simp, ?_⟩
  have hs : digs k = (if k / 10 = 0 then [] else digs (k / 10)) ++ [decB k] := by
    by_cases h10 : k < 10
    · rw [digs_lt h10, if_pos (by omega)]; rfl
    · rw [digs_ge h10, if_neg (by omega)]
  rcases h with ⟨rfl, rfl⟩ | ⟨h1, h2⟩
  · exact hs
  · rcases hg with hg | hg
    · rw [h2, if_neg (by omega), hs]; simp
    · exact absurd hg h1
theorem digRest_len {n k : Nat} {G : List UInt8} (h : digRest n k G) : G.length ≤ (digs n).length := by
  rcases h with ⟨rfl, _⟩ | ⟨_, h⟩
  · simp
  · rw [h, List.length_append]; omega
set_option maxRecDepth 100000 in
set_option maxHeartbeats 1600000 in
theorem rdigs_any (n : Nat) (hn : n ≤ 4611686018427387910) (w : World) : Calls Tryd.prog 32 #[.int .i64 n] w fun x w' => x = .returned (.string (str (digs n))) ∧ More w w' := by
  refine calls_wd ?_
  go_enter Tryd.func32, Tryd.ntmps32
  go_wp2
  go_loopw [0, 3] (fun i s wr => ∃ (k : Nat) (G : List UInt8), i = .int .i64 k ∧ k ≤ n ∧ s = .string (str G) ∧ wr = wd w [] w.drawn ∧ digRest n k G) (fun i s _ => (intOf i).toNat + (match s with | .string b => if b.size = 0 then 1 else 0 | _ => 0))
  case atStart => exact ⟨n, [], rfl, Nat.le_refl _, rfl, rfl, .inl ⟨rfl, rfl⟩⟩
  case round =>
    obtain ⟨k, G, rfl, hk, rfl, rfl, hd⟩ := hrel
    have hG := digRest_len hd
    have hnl : (digs n).length ≤ 19 := digs_len 18 n (by have : (4611686018427387910 : Nat) < 10 ^ (18 + 1) := by decide
                                                         omega)
    have hsz := str_size G
    have hsl := fun W => dec_slice W k
    have ha := sadd (P := Tryd.prog) [decB k] G (by simp; omega)
    by_cases hg : 0 < k ∨ G = []
    · have HD := Lib.hid (digRest_step hd hg)
      have hs2 : (str (decB k :: G)).size = G.length + 1 := by rw [str_size]; rfl
      by_cases h0 : 0 < k
      · have h0' : (0 : Int) < k := by omega
        clear hd
        go_wp2
        go_roundw
        case rel => exact ⟨k / 10, decB k :: G, by go_num, by omega, rfl, trivial, HD.out⟩
        case measure =>
          simp only [intOf, hs2, hsz]
          split <;> omega
      · obtain rfl : k = 0 := by omega
        obtain rfl : G = [] := by rcases hg with hg | hg <;> first | omega | exact hg
        have he : (str []).toList.isEmpty = true := by rw [str_toList]; rfl
        clear hd hsl ha
        go_wp2
        go_roundw
        case rel => exact ⟨0, [48], rfl, Nat.zero_le _, rfl, trivial, HD.out⟩
        case measure => decide
    · have hk0 : k = 0 := by omega
      subst hk0
      have hne : G ≠ [] := fun h => hg (.inr h)
      have he : (str G).toList.isEmpty = false := by rw [str_toList]; simp [hne]
      have hdn := Lib.hid (show digs n = G by
        rcases hd with ⟨h, _⟩ | ⟨_, h⟩
        · exact absurd h hne
        · rw [h]; rfl)
      clear hd hsl ha hg
      go_wp2
      go_ret
      exact ⟨by rw [hdn.out]; rfl, more_wd _ _ _⟩
set_option maxRecDepth 100000 in
set_option maxHeartbeats 1600000 in
theorem rdig_any (n : Int) (h1 : -1 ≤ n) (h2 : n ≤ 4611686018427387910) (w : World) : Calls Tryd.prog 32 #[.int .i64 n] w fun x w' => x = .returned (.string (str (digN n))) ∧ More w w' := by
  by_cases h0 : n < 0
  · obtain rfl : n = -1 := by omega
    have H : Hid (∀ w, Calls Tryd.prog 32 #[.int .i64 1] w fun x w' => x = .returned (.string (str (digs 1))) ∧ More w w') := Lib.hid (rdigs_any 1 (by omega))
    have ha := sadd (P := Tryd.prog) [45] (digs 1) (by rw [digs_small (by decide)]; simp)
    rw [show str [45] = { data := #[45] } from rfl] at ha
    have hd := Lib.hid (show digN (-1) = [45] ++ digs 1 from rfl)
    refine calls_wd ?_
    go_enter Tryd.func32, Tryd.ntmps32
    go_wp2_with (first | (go_at_call 32; ((with_reducible refine (H.out _).mono ?_); rintro e w1 ⟨rfl, x1, n1, rfl⟩)))
    go_ret
    exact ⟨by rw [hd.out]; rfl, more_wd _ _ _⟩
  · have h := rdigs_any n.toNat (by omega) w
    rw [show ((n.toNat : Nat) : Int) = n by omega] at h
    have e : digN n = digs n.toNat := by unfold digN; rw [if_neg h0]
    rw [e]; exact h

/-! ### joined words -/
theorem join_same (c : UInt8) : ∀ ws : List (List UInt8), Lib.join ws [c] = joinC c ws
  | [] => rfl
  | [w] => by rw [Lib.join_one]; rfl
  | w :: v :: ws => by
    rw [joinC_cons c w (by simp), ← join_same c (v :: ws), Lib.join_cons, Lib.join_cons, Lib.joinTail, List.map_cons, List.flatten_cons]
    simp [Lib.joinTail]
/-- Texts that can be read. -/
def strCell (s : List UInt8) : List Value := [.string (str s)]
theorem strCell_len (s : List UInt8) : (strCell s).length = 1 := rfl
abbrev StrsAt (w : World) (a : Option Addr) (l : List (List UInt8)) : Prop := RowAt strCell 1 w a l
theorem strs_at {w : World} {a : Option Addr} {l : List (List UInt8)} (h : StrsAt w a l) (k : Nat) (x : List UInt8) (hx : l[k]? = some x) : ∃ b off, a = some ⟨b, off, none⟩ ∧ b < w.heap.size ∧ w.cell? ⟨b, off + k, none⟩ = some (.string (str x)) := by
  obtain ⟨b, off, ha, hb, g⟩ := h.at strCell_len k x hx
  refine ⟨b, off, ha, hb, ?_⟩
  have := g 0 (by omega)
  rw [Nat.mul_one, Nat.add_zero] at this
  exact this
set_option maxRecDepth 100000 in
theorem join_any (a : Option Addr) (cap : Nat) (ws : List (List UInt8)) (w : World) (h : StrsAt w a ws) (hc : ws.length ≤ cap) (hl : ws.length ≤ 1000000) (hj : (joinC 32 ws).length ≤ 1000000000) :
    Calls Tryd.prog 49 #[.slice a ws.length cap, .string { data := #[32] }] w fun x w' => x = .returned (.string (str (joinC 32 ws))) ∧ More w w' := by
  by_cases hne : ws = []
  · subst hne
    refine (Tryd.strings_Join_none a cap _ w).mono ?_
    rintro x w' ⟨rfl, rfl⟩
    exact ⟨rfl, .refl _⟩
  · obtain ⟨b, off, rfl, hb, _⟩ := strs_at h 0 (ws.head hne) (by cases ws with | nil => exact absurd rfl hne | cons => rfl)
    have hm : (ws.map str).map (·.data.toList) = ws := by rw [List.map_map]; simp [Function.comp_def, str]
    have c := Tryd.strings_Join b off cap (ws.map str) { data := #[32] } w (fun j x hx => by
      rw [List.getElem?_map] at hx
      cases hw : ws[j]? with
      | none => rw [hw] at hx; cases hx
      | some y =>
        rw [hw] at hx
        cases hx
        obtain ⟨b', off', he, _, g⟩ := strs_at h j y hw
        cases he; exact g) hb (by rw [List.length_map]; omega) (by rw [List.length_map]; exact hc) (by rw [hm]; show (Lib.join ws [32]).length ≤ _; rw [join_same]; omega)
    rw [hm, List.length_map] at c
    refine c.mono ?_
    rintro x w' ⟨rfl, hbel⟩
    refine ⟨?_, more_of_below hbel⟩
    show Ending.returned (.string ⟨(Lib.join ws [32]).toArray⟩) = _
    rw [join_same]; rfl
set_option maxRecDepth 100000 in
set_option maxHeartbeats 400000 in
theorem line_any (a : Option Addr) (cap : Nat) (ws : List (List UInt8)) (w : World) (h : StrsAt w a ws) (hc : ws.length ≤ cap) (hl : ws.length ≤ 1000000) (hj : (joinC 32 ws).length ≤ 1000000000) :
    Calls Tryd.prog 33 #[.slice a ws.length cap] w fun x w' => x = .returned (.string (str (joinC 32 ws))) ∧ More w w' := by
  have H := Lib.hid (fun W (hm : More w W) => join_any a cap ws W (h.more hm) hc hl hj)
  refine calls_wd ?_
  go_enter Tryd.func33, Tryd.ntmps33
  go_wp2_with (first | (go_at_call 49; ((with_reducible refine (H.out _ (more_wd _ _ _)).mono ?_); rintro e w1 ⟨rfl, x1, n1, rfl⟩)))
  go_ret
  exact ⟨rfl, more_wd _ _ _⟩
end Go.Proofs.YtejokhgabcldhaaDoor
