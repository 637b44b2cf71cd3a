/- dump, plain: texts of batches, and how they are read. -/
import Derived.Test.YtifoekadjnlhcaaGreatDoorMG
import Derived.Test.YtifoekadjnlhcaaGreatDoorME
import Derived.Test.YtifoekadjnlhcaaGreatDoorMI
import Derived.Test.YtifoekadjnlhcaaGreatDoorShelf
namespace Go.Proofs.YtifoekadjnlhcaaGreatDoor
open Go.RowKit
set_option linter.unusedVariables false
set_option linter.unusedSimpArgs false
def recWord : List UInt8 := [114, 101, 99, 111, 114, 100]
def batWord : List UInt8 := [98, 97, 116, 99, 104]
def recTail (r : Rec) : List (List UInt8) := if r.dead then [[100], quote r.key] else if r.keyed then [[107], quote r.key, quote r.value] else [[118], quote r.value]
def recWords (r : Rec) : List (List UInt8) := recWord :: digN r.delta :: digN r.time :: recTail r
def recLine (r : Rec) : List UInt8 := joinC 32 (recWords r)
def firstWords (b : Bat) (n : Int) : List (List UInt8) := [batWord, digN b.base, digN b.count, digN b.producer, digN b.epoch, digN b.seq, digN n]
def firstLine (b : Bat) (n : Int) : List UInt8 := joinC 32 (firstWords b n)
def batLines (b : Bat) : List (List UInt8) := firstLine b b.recs.length :: b.recs.map recLine
def batLs (b : Bat) : List (List UInt8) × Int := if batCheck b ≠ 0 then ([], batCheck b) else (batLines b, 0)
def lineB (l : List UInt8) : List UInt8 := l ++ [10]
def textGo : List Bat → List UInt8 × Int
  | [] => ([], 0)
  | b :: l => if batCheck b ≠ 0 then ([], batCheck b) else if (textGo l).2 ≠ 0 then ([], (textGo l).2) else ((batLines b).flatMap lineB ++ (textGo l).1, 0)
def textOf (l : List Bat) : List UInt8 × Int := if 1000 < l.length then ([], 5) else textGo l
def recAs (w1 w2 w3 : List UInt8) (a v : List UInt8) : Rec :=
  if w3 = [118] then ⟨numD w1, numD w2, false, [], false, a⟩ else if w3 = [100] then ⟨numD w1, numD w2, true, a, true, []⟩ else ⟨numD w1, numD w2, true, a, false, v⟩
def recOk (w3 : List UInt8) (a v : Bool) : Bool := if w3 = [118] ∨ w3 = [100] then a else a && v
def recOf (s : List UInt8) : Rec × Bool :=
  match splitC 32 s with
  | _ :: w1 :: w2 :: w3 :: w4 :: ws =>
    (recAs w1 w2 w3 (unquote w4).1 (unquote (joinC 32 ws)).1, recOk w3 (unquote w4).2 (unquote (joinC 32 ws)).2 && decide (recLine (recAs w1 w2 w3 (unquote w4).1 (unquote (joinC 32 ws)).1) = s))
  | _ => (Rec.zero, false)
def nextD (rs : List Rec) : Int := match rs.getLast? with | none => 0 | some r => r.delta + 1
def smallR (d : Int) : Rec := ⟨d, 0, false, [], false, []⟩
def extR : List Rec → Nat → List Rec
  | rs, 0 => rs
  | rs, k + 1 => extR (rs ++ [smallR (nextD rs)]) k
def Bat.put (b : Bat) (rs : List Rec) : Bat := { b with recs := rs }
def mayB (b : Bat) (n : Int) : Bool := decide (0 ≤ n ∧ n ≤ b.count ∧ b.count ≤ 32) && decide (batCheck (b.put (extR b.recs (n.toNat - b.recs.length))) = 0)
def readRecs (n : Int) : Nat → Bat → List (List UInt8) → Nat → Bat × Nat × Bool
  | 0, b, _, j => (b, j, true)
  | _ + 1, _, [], j => (Bat.zero, j + 1, false)
  | k + 1, b, s :: ls, j => if ((recOf s).2 && mayB (b.put (b.recs ++ [(recOf s).1])) n) = true then readRecs n k (b.put (b.recs ++ [(recOf s).1])) ls (j + 1) else (Bat.zero, j + 1, false)
def headOf (w : List (List UInt8)) : Bat := ⟨numD (w[1]?.getD []), numD (w[2]?.getD []), numD (w[3]?.getD []), numD (w[4]?.getD []), numD (w[5]?.getD []), []⟩
def sizeOfW (w : List (List UInt8)) : Int := numD (w[6]?.getD [])
def readBat : List (List UInt8) → Bat × Nat × Bool
  | [] => (Bat.zero, 0, false)
  | s :: ls => if (splitC 32 s).length ≠ 7 then (Bat.zero, 1, false)
    else if firstLine (headOf (splitC 32 s)) (sizeOfW (splitC 32 s)) ≠ s ∨ mayB (headOf (splitC 32 s)) (sizeOfW (splitC 32 s)) = false then (Bat.zero, 1, false)
    else readRecs (sizeOfW (splitC 32 s)) (sizeOfW (splitC 32 s)).toNat (headOf (splitC 32 s)) ls 1
def readL : Nat → List (List UInt8) → Nat → List Bat → Option (List Bat) × Nat
  | 0, _, at_, out => (some out, at_)
  | f + 1, ls, at_, out => if ls = [] then (some out, at_) else if 1000 ≤ out.length then (none, at_ + 1)
    else if (readBat ls).2.2 = true then readL f (ls.drop (readBat ls).2.1) (at_ + (readBat ls).2.1) (out ++ [(readBat ls).1]) else (none, at_ + (readBat ls).2.1)
def wholeB (t : List UInt8) : Bool := decide (t.getLast? = some 10)
def linesOf (t : List UInt8) : List (List UInt8) := splitC 10 (if wholeB t then t.dropLast else t)
def dumpRead (t : List UInt8) : List Bat × Nat × Int :=
  if 65536 < t.length then ([], 0, 5) else if t = [] then ([], 0, 0) else
  match readL (linesOf t).length (linesOf t) 0 [] with
  | (none, j) => ([], if wholeB t then j else min j (linesOf t).length, 4)
  | (some m, _) => if wholeB t then (m, 0, 0) else ([], (linesOf t).length, 4)
def tens (v : List UInt8) : Nat := (v.filter (· == 10)).length
end Go.Proofs.YtifoekadjnlhcaaGreatDoor
namespace Go.Proofs.YtifoekadjnlhcaaGreatDoor
open Go.ChangeShapes Go.WideShapes Go.ChangeAt Go.RowKit
set_option linter.unusedVariables false
set_option linter.unusedSimpArgs false
theorem lit_str (w : World) (L : List (Array Obj)) (n : Nat) (b : Int) (c : UInt8) (hb : b = c.toNat) : (convert 28 9 (.slice (some ⟨sz w.heap.size (shape L), 0, none⟩) 1 1)).run Tryz.prog (wd w (#[.cells #[.int .u8 b] 5] :: L) n) = .ok (.string (str [c])) (wd w (#[.cells #[.int .u8 b] 5] :: L) n) := by
  subst hb
  refine RB.run_str (l := [c]) (RB.of_block (wd_at w L n w.heap.size (shape L) _ rfl rfl) [c] 1 (by simp) (by decide) (fun i hi => ?_)) _ _ _ Tryz.underlying28 Tryz.underlying5 Tryz.underlying9
  match i, hi with
  | 0, _ => rfl
theorem lit_str0 (w : World) (n : Nat) (b : Int) (c : UInt8) (hb : b = c.toNat) : (convert 28 9 (.slice (some ⟨sz w.heap.size [], 0, none⟩) 1 1)).run Tryz.prog (wd w [#[.cells #[.int .u8 b] 5]] n) = .ok (.string (str [c])) (wd w [#[.cells #[.int .u8 b] 5]] n) := lit_str w [] n b c hb
def decB (n : Nat) : UInt8 := UInt8.ofNat (48 + n % 10)
theorem digs_lt {n : Nat} (h : n < 10) : digs n = [decB n] := by rw [digs_small h]; unfold decB; rw [Nat.mod_eq_of_lt h]
theorem digs_ge {n : Nat} (h : ¬ n < 10) : digs n = digs (n / 10) ++ [decB n] := digs_big h
theorem digit_byte (n : Nat) : (48 : Int) + (n : Int) % 10 = (decB n).toNat := by
  unfold decB
  have : (UInt8.ofNat (48 + n % 10)).toNat = 48 + n % 10 := by simp; omega
  omega
theorem dec_slice (W : World) (n : Nat) : (Instr.slice 9 (.string { data := #[48, 49, 50, 51, 52, 53, 54, 55, 56, 57] }) (some (.int .i64 ((n : Int) % 10))) (some (.int .i64 ((n : Int) % 10 + 1))) none).run Tryz.prog W = .ok (.string (str [decB n])) W := by
  have h := sslice (P := Tryz.prog) 9 Tryz.underlying9 [48, 49, 50, 51, 52, 53, 54, 55, 56, 57] .i64 .i64 (n % 10) (n % 10 + 1) (by omega) (by simp; omega) W
  rw [show (((n % 10 + 1 : Nat)) : Int) = (n : Int) % 10 + 1 by omega, show (((n % 10 : Nat)) : Int) = (n : Int) % 10 by omega] at h
  rw [show str [48, 49, 50, 51, 52, 53, 54, 55, 56, 57] = { data := #[48, 49, 50, 51, 52, 53, 54, 55, 56, 57] } from rfl] at h
  have hg : ∀ k, k < 10 → ([48, 49, 50, 51, 52, 53, 54, 55, 56, 57] : List UInt8)[k]? = some (UInt8.ofNat (48 + k)) := by decide
  rw [h, take_drop_one _ (n % 10) (decB n) (hg _ (by omega))]
def digRest (n k : Nat) (G : List UInt8) : Prop := (G = [] ∧ k = n) ∨ (G ≠ [] ∧ digs n = (if k = 0 then [] else digs k) ++ G)
theorem digRest_step {n k : Nat} {G : List UInt8} (h : digRest n k G) (hg : 0 < k ∨ G = []) : digRest n (k / 10) (decB k :: G) := by
  right
  refine ⟨by simp, ?_⟩
  have hs : digs k = (if k / 10 = 0 then [] else digs (k / 10)) ++ [decB k] := by
    by_cases h10 : k < 10
    · rw [digs_lt h10, if_pos (by omega)]; rfl
    · rw [digs_ge h10, if_neg (by omega)]
  rcases h with ⟨rfl, rfl⟩ | ⟨h1, h2⟩
  · exact hs
  · rcases hg with hg | hg
    · rw [h2, if_neg (by omega), hs]; simp
    · exact absurd hg h1
theorem digRest_len {n k : Nat} {G : List UInt8} (h : digRest n k G) : G.length ≤ (digs n).length := by
  rcases h with ⟨rfl, _⟩ | ⟨_, h⟩
  · simp
  · rw [h, List.length_append]; omega
set_option maxRecDepth 100000 in
set_option maxHeartbeats 1600000 in
theorem rdigs_any (n : Nat) (hn : n ≤ 4611686018427387910) (w : World) : Calls Tryz.prog 14 #[.int .i64 n] w fun x w' => x = .returned (.string (str (digs n))) ∧ More w w' := by
  refine calls_wd ?_
  go_enter Tryz.func14, Tryz.ntmps14
  go_wp2
  go_loopw [0, 3] (fun i s wr => ∃ (k : Nat) (G : List UInt8), i = .int .i64 k ∧ k ≤ n ∧ s = .string (str G) ∧ wr = wd w [] w.drawn ∧ digRest n k G) (fun i s _ => (intOf i).toNat + (match s with | .string b => if b.size = 0 then 1 else 0 | _ => 0))
  case atStart => exact ⟨n, [], rfl, Nat.le_refl _, rfl, rfl, .inl ⟨rfl, rfl⟩⟩
  case round =>
    obtain ⟨k, G, rfl, hk, rfl, rfl, hd⟩ := hrel
    have hG := digRest_len hd
    have hnl : (digs n).length ≤ 19 := digs_len 18 n (by have : (4611686018427387910 : Nat) < 10 ^ (18 + 1) := by decide
                                                         omega)
    have hsz := str_size G
    have hsl := fun W => dec_slice W k
    have ha := sadd (P := Tryz.prog) [decB k] G (by simp; omega)
    by_cases hg : 0 < k ∨ G = []
    · have HD := Lib.hid (digRest_step hd hg)
      have hs2 : (str (decB k :: G)).size = G.length + 1 := by rw [str_size]; rfl
      by_cases h0 : 0 < k
      · have h0' : (0 : Int) < k := by omega
        clear hd
        go_wp2
        go_roundw
        case rel => exact ⟨k / 10, decB k :: G, by go_num, by omega, rfl, trivial, HD.out⟩
        case measure =>
          simp only [intOf, hs2, hsz]
          split <;> omega
      · obtain rfl : k = 0 := by omega
        obtain rfl : G = [] := by rcases hg with hg | hg <;> first | omega | exact hg
        have he : (str []).toList.isEmpty = true := by rw [str_toList]; rfl
        clear hd hsl ha
        go_wp2
        go_roundw
        case rel => exact ⟨0, [48], rfl, Nat.zero_le _, rfl, trivial, HD.out⟩
        case measure => decide
    · have hk0 : k = 0 := by omega
      subst hk0
      have hne : G ≠ [] := fun h => hg (.inr h)
      have he : (str G).toList.isEmpty = false := by rw [str_toList]; simp [hne]
      have hdn := Lib.hid (show digs n = G by
        rcases hd with ⟨h, _⟩ | ⟨_, h⟩
        · exact absurd h hne
        · rw [h]; rfl)
      clear hd hsl ha hg
      go_wp2
      go_ret
      exact ⟨by rw [hdn.out]; rfl, more_wd _ _ _⟩
def strCell (s : List UInt8) : List Value := [.string (str s)]
theorem strCell_len (s : List UInt8) : (strCell s).length = 1 := rfl
abbrev StrsAt (w : World) (a : Option Addr) (l : List (List UInt8)) : Prop := RowAt strCell 1 w a l
theorem index_cases : ∀ (s : List UInt8) (c : UInt8), (Lib.indexByte s c = -1 ∧ c ∉ s) ∨ ∃ i : Nat, Lib.indexByte s c = i ∧ i < s.length ∧ s = s.take i ++ c :: s.drop (i + 1) ∧ c ∉ s.take i
  | [], c => .inl ⟨rfl, by simp⟩
  | b :: l, c => by
    unfold Lib.indexByte
    by_cases hb : b = c
    · subst hb
      refine .inr ⟨0, by simp, by simp, by simp, by simp⟩
    · have hb' : (b == c) = false := beq_eq_false_iff_ne.2 hb
      rw [hb']
      rcases index_cases l c with ⟨h1, h2⟩ | ⟨i, h1, h2, h3, h4⟩
      · refine .inl ⟨by simp [h1], ?_⟩
        rw [List.mem_cons, not_or]; exact ⟨Ne.symm hb, h2⟩
      · have hne : ((i : Int) == -1) = false := by rw [beq_eq_false_iff_ne]; omega
        refine .inr ⟨i + 1, ?_, by simp; omega, ?_, ?_⟩
        · rw [h1]; simp [hne]
        · rw [List.take_succ_cons, List.drop_succ_cons, List.cons_append, ← h3]
        · rw [List.take_succ_cons, List.mem_cons, not_or]; exact ⟨Ne.symm hb, h4⟩
theorem splitK_one (c : UInt8) : ∀ (k : Nat) (s : List UInt8), s.count c = k → Lib.splitK [c] 0 k s = splitC c s
  | 0, s, h => by
    rw [Lib.splitK, splitC_word c s (List.count_eq_zero.1 h)]
  | k + 1, s, h => by
    rw [Lib.splitK, Lib.index_one]
    rcases index_cases s c with ⟨h1, h2⟩ | ⟨i, h1, h2, h3, h4⟩
    · rw [List.count_eq_zero.2 h2] at h; cases h
    · have hne : ((i : Int) == -1) = false := by rw [beq_eq_false_iff_ne]; omega
      rw [h1, hne]
      simp only [Bool.false_eq_true, if_false, Int.toNat_natCast, Nat.add_zero, List.length_cons, List.length_nil, Nat.zero_add]
      have hc : (s.drop (i + 1)).count c = k := by
        rw [h3, List.count_append, List.count_cons_self, List.count_eq_zero.2 h4] at h
        omega
      rw [splitK_one c k _ hc]
      conv => rhs; rw [h3]
      rw [splitC_at c _ _ h4]
theorem splitC_len (c : UInt8) : ∀ s : List UInt8, (splitC c s).length = s.count c + 1
  | [] => rfl
  | x :: s => by
    have ih := splitC_len c s
    rw [splitC]
    by_cases hx : x = c
    · subst hx; rw [if_pos rfl, List.length_cons, ih, List.count_cons_self]
    · rw [if_neg hx, List.count_cons_of_ne hx, ← ih]
      cases hs : splitC c s with
      | nil => exact absurd hs (splitC_ne c s)
      | cons w ws => rfl
theorem splitB_one (c : UInt8) (s : List UInt8) : (Lib.splitB (str [c]) 0 (s.count c) (str s)).map Value.string = (splitC c s).flatMap strCell := by
  have h := Lib.splitB_data (str [c]) 0 (s.count c) (str s)
  rw [str_data, str_data, splitK_one c _ s rfl] at h
  have h2 : (Lib.splitB (str [c]) 0 (s.count c) (str s)).map Value.string = ((Lib.splitB (str [c]) 0 (s.count c) (str s)).map (·.data.toList)).flatMap strCell := by
    rw [List.flatMap_map]
    induction (Lib.splitB (str [c]) 0 (s.count c) (str s)) with
    | nil => rfl
    | cons x l ih => rw [List.map_cons, ih, List.flatMap_cons]; simp [strCell, str_of]
  rw [h2, h]
set_option maxRecDepth 100000 in
set_option maxHeartbeats 400000 in
theorem split_any (s : List UInt8) (c : UInt8) (w : World) (hs : s.length < 4294967281) :
    Calls Tryz.prog 33 #[.string (str s), .string (str [c])] w fun x w' => x = .returned (.slice (some ⟨w.heap.size, 0, none⟩) (splitC c s).length (splitC c s).length) ∧ w' = w.alloc (.cells ((splitC c s).flatMap strCell).toArray 9) := by
  have hcnt : Lib.countB (str s) (str [c]) = s.count c := Lib.count_one c s
  have hI : ∀ (x : ByteArray) (C : Array Value), x.size ≤ (str s).size → Calls Tryz.prog 79 #[.string x, .string (str [c])] (w.alloc (.cells C 9)) fun e w' => e = .returned (.int .i64 (Lib.indexB x (str [c]))) ∧ w' = w.alloc (.cells C 9) := fun x C _ => by
    refine (Tryz.strings_Index_one x c _).mono ?_
    rintro e w' ⟨rfl, rfl⟩
    refine ⟨?_, rfl⟩
    rw [← Lib.index_one]; rfl
  have hC : Calls Tryz.prog 78 #[.string (str s), .string (str [c])] w fun e w' => e = .returned (.int .i64 (Lib.countB (str s) (str [c]))) ∧ w' = w := by
    refine (Tryz.strings_Count_one (str s) c w).mono ?_
    rintro e w' ⟨rfl, rfl⟩
    refine ⟨?_, rfl⟩
    rw [hcnt]; rfl
  have hle : s.count c ≤ s.length := List.count_le_length
  have core : Calls Tryz.prog 55 #[.string (str s), .string (str [c]), .int .i64 0, .int .i64 (-1)] w fun e w' => e = .returned (.slice (some ⟨w.heap.size, 0, none⟩) (splitC c s).length (splitC c s).length) ∧ w' = w.alloc (.cells ((splitC c s).flatMap strCell).toArray 9) := by
    have h0 := Any.strings_genSplit_core Tryz.lays221 (by kernel_rfl) (str s) (str [c]) 0 (-1) (s.count c + 1) w (by rw [str_size]; exact hs) (by rw [str_size]; exact Nat.le_refl _) (Nat.zero_le _) hI hC (by decide) (by decide)
      (by rw [if_pos (by decide), hcnt, str_size]; omega)
    rw [Nat.add_sub_cancel] at h0
    have hl : (Lib.splitB (str [c]) 0 (s.count c) (str s)).length = s.count c + 1 := by
      have := congrArg List.length (splitB_one c s)
      rw [List.length_map, flat_len strCell 1 strCell_len, splitC_len, Nat.mul_one] at this
      exact this
    have hcf : Lib.cellsOf (Lib.splitB (str [c]) 0 (s.count c) (str s)) (s.count c + 1) = ((splitC c s).flatMap strCell).toArray := by
      rw [← splitB_one, ← hl]; exact Lib.cellsOf_full _
    rw [hl, hcf, ← splitC_len] at h0
    exact h0
  go_enter Tryz.func33, Tryz.ntmps33
  go_wp2_with (first | (go_at_call 55; refine core.mono ?_; rintro e w' ⟨rfl, hw⟩; rw [hw]))
  go_ret
  exact ⟨rfl, rfl⟩
end Go.Proofs.YtifoekadjnlhcaaGreatDoor
