/- dump: the reference's Quote; half. -/
import Derived.Test.YtejokhgabcldhaaDoorNA
import Derived.Test.YtejokhgabcldhaaDoorMC
namespace Go.Proofs.YtejokhgabcldhaaDoor
open Go.ChangeShapes Go.WideShapes Go.ChangeAt Go.RowKit
set_option linter.unusedVariables false
set_option linter.unusedSimpArgs false

/-! ### texts -/
theorem str_app (a b : List UInt8) : str a ++ str b = str (a ++ b) := by
  apply ByteArray.ext
  simp [str]
theorem sadd {P : Program} (a b : List UInt8) (h : a.length + b.length ≤ 9223372036854775807) (W : World) : (Op.stringOp .add (str a) (str b)).run P W = .ok (.string (str (a ++ b))) W := by
  have h2 : ¬ ((((str a).size + (str b).size : Nat) : Int) > IntKind.i64.max) := by
    rw [str_size, str_size, show IntKind.i64.max = 9223372036854775807 from rfl]; omega
  unfold Op.stringOp
  simp only
  rw [if_neg h2, str_app]
  rfl
theorem sindex {P : Program} (t : TypeId) (ht : P.underlying t = some .string) (l : List UInt8) (k : Nat) (c : UInt8) (h : l[k]? = some c) (W : World) : (Instr.index t (.string (str l)) (.int .i64 (k : Int))).run P W = .ok (.int .u8 c.toNat) W := by
  obtain ⟨hk, hc⟩ := List.getElem?_eq_some_iff.1 h
  rw [run_index_string W t (str l) .i64 k ht, dif_pos ⟨by omega, by rw [str_size]; omega⟩]
  subst hc
  rfl
theorem sslice {P : Program} (t : TypeId) (ht : P.underlying t = some .string) (l : List UInt8) (k1 k2 : IntKind) (i j : Nat) (hij : i ≤ j) (hj : j ≤ l.length) (W : World) :
    (Instr.slice t (.string (str l)) (some (.int k1 (i : Int))) (some (.int k2 (j : Int))) none).run P W = .ok (.string (str ((l.take j).drop i))) W := by
  rw [run_slice_string (w := W) t (str l) k1 k2 i j ht (by omega) (by omega) (by rw [str_size]; omega)]
  congr 2
  apply ByteArray.ext
  simp [str, List.extract_eq_take_drop, List.drop_take]
theorem take_drop_one (l : List UInt8) (k : Nat) (c : UInt8) (h : l[k]? = some c) : (l.take (k + 1)).drop k = [c] := by
  obtain ⟨hk, rfl⟩ := List.getElem?_eq_some_iff.1 h
  rw [List.take_succ_eq_append_getElem hk, List.drop_append_of_le_length (by simp; omega), List.drop_of_length_le (by rw [List.length_take]; omega)]
  rfl
theorem hexGet : ∀ n, n < 16 → ([48, 49, 50, 51, 52, 53, 54, 55, 56, 57, 97, 98, 99, 100, 101, 102] : List UInt8)[n]? = some (hexB n) := by decide
theorem hex_slice (W : World) : ∀ (n : Nat), n < 16 → (Instr.slice 9 (.string { data := #[48, 49, 50, 51, 52, 53, 54, 55, 56, 57, 97, 98, 99, 100, 101, 102] }) (some (.int .u8 (n : Int))) (some (.int .u8 ((n : Int) + 1))) none).run Tryd.prog W = .ok (.string (str [hexB n])) W := by
  intro n hn
  have h := sslice (P := Tryd.prog) 9 Tryd.underlying9 [48, 49, 50, 51, 52, 53, 54, 55, 56, 57, 97, 98, 99, 100, 101, 102] .u8 .u8 n (n + 1) (by omega) (by simp; omega) W
  rw [show (((n + 1 : Nat)) : Int) = (n : Int) + 1 by omega] at h
  rw [show str [48, 49, 50, 51, 52, 53, 54, 55, 56, 57, 97, 98, 99, 100, 101, 102] = { data := #[48, 49, 50, 51, 52, 53, 54, 55, 56, 57, 97, 98, 99, 100, 101, 102] } from rfl] at h
  rw [h, take_drop_one _ n (hexB n) (hexGet n hn)]
set_option maxRecDepth 100000 in
set_option maxHeartbeats 3200000 in
theorem rquote_any (l : List UInt8) (w : World) (hl : l.length ≤ 1099511627) : Calls Tryd.prog 11 #[.string (str l)] w fun x w' => x = .returned (.string (str (quote l))) ∧ More w w' := by
  by_cases hne : l = []
  · subst hne
    have hq0 : (str []).toList.isEmpty = true := by rw [str_toList]; rfl
    refine calls_wd ?_
    go_enter Tryd.func11, Tryd.ntmps11
    go_wp2
    go_ret
    exact ⟨rfl, more_wd _ _ _⟩
  have hq0 : (str l).toList.isEmpty = false := by rw [str_toList]; simp [hne]
  have hqe := Lib.hid (show quote l = l.flatMap quoteC by unfold quote; rw [if_neg hne])
  have hsz := str_size l
  refine calls_wd ?_
  go_enter Tryd.func11, Tryd.ntmps11
  go_wp2
  go_loopw [3, 4] (fun s i wr => ∃ (k : Nat) (m : Ext), k ≤ l.length ∧ i = .int .i64 k ∧ wr = wd w [m.e] m.n ∧ s = .string (str ((l.take k).flatMap quoteC))) (fun s i _ => l.length - (intOf i).toNat)
  case atStart => exact ⟨0, ⟨#[], _⟩, Nat.zero_le _, rfl, by rw [wd_empty], rfl⟩
  case round =>
    obtain ⟨k, m, hk, rfl, rfl, rfl⟩ := hrel
    have hlen : ((l.take k).flatMap quoteC).length ≤ 549755813888 := by
      have h1 := flat_q_len (l.take k)
      rw [List.length_take] at h1; omega
    obtain ⟨G, hG⟩ : ∃ G, (l.take k).flatMap quoteC = G := ⟨_, rfl⟩
    rw [hG] at hlen ⊢
    by_cases hlt : k < l.length
    · obtain ⟨c, hc⟩ : ∃ c, l[k]? = some c := ⟨_, List.getElem?_eq_getElem hlt⟩
      have hix := sindex (P := Tryd.prog) 9 Tryd.underlying9 l k c hc
      have hsl := sslice (P := Tryd.prog) 9 Tryd.underlying9 l .i64 .i64 k (k + 1) (by omega) (by omega)
      rw [take_drop_one l k c hc, show (((k + 1 : Nat)) : Int) = (k : Int) + 1 by omega] at hsl
      have HS := Lib.hid (show (l.take (k + 1)).flatMap quoteC = G ++ quoteC c by rw [take_get l k c hc, List.flatMap_append, hG]; simp)
      have hcl := c.toNat_lt
      clear hc hG
      by_cases hp : plainB c = true
      · have hp2 : 32 < c.toNat ∧ c.toNat < 127 ∧ ¬ c.toNat = 37 := by simpa [plainB] using hp
        have h1 : (32 : Int) < c.toNat := by omega
        have h2 : (c.toNat : Int) < 127 := by omega
        have h3 : ((c.toNat : Int) != 37) = true := by rw [bne_iff_ne]; omega
        have ha := sadd (P := Tryd.prog) G [c] (by simp; omega)
        clear hp2
        go_wp2
        go_roundw
        case rel => exact ⟨k + 1, m, by omega, by go_num, rfl, by rw [HS.out, show quoteC c = [c] by unfold quoteC; rw [if_pos hp]]⟩
        case measure => simp [intOf]; omega
      · have hp' : plainB c = false := by simpa using hp
        have hp2 : ¬ (32 : Int) < c.toNat ∨ ((32 : Int) < c.toNat ∧ ¬ (c.toNat : Int) < 127) ∨ ((32 : Int) < c.toNat ∧ (c.toNat : Int) < 127 ∧ ((c.toNat : Int) != 37) = false) := by
          by_cases g1 : 32 < c.toNat
          · by_cases g2 : c.toNat < 127
            · by_cases g3 : c.toNat = 37
              · exact .inr (.inr ⟨by omega, by omega, by simp [g3]⟩)
              · exact absurd (by simp [plainB, g1, g2, g3]) hp
            · exact .inr (.inl ⟨by omega, by omega⟩)
          · exact .inl (by omega)
        have HE := Lib.hid (show quoteC c = [37, hexB (c.toNat / 16), hexB (c.toNat % 16)] by unfold quoteC; rw [if_neg hp])
        have e1 := sadd (P := Tryd.prog) G [37] (by simp; omega)
        have e2 := sadd (P := Tryd.prog) (G ++ [37]) [hexB (c.toNat / 16)] (by simp; omega)
        have e3 := sadd (P := Tryd.prog) (G ++ [37, hexB (c.toNat / 16)]) [hexB (c.toNat % 16)] (by simp; omega)
        rw [show str [37] = { data := #[37] } from rfl] at e1
        have k1 := fun W => hex_slice W (c.toNat / 16) (by omega)
        have k2 := fun W => hex_slice W (c.toNat % 16) (by omega)
        rw [show (((c.toNat / 16 : Nat)) : Int) = (c.toNat : Int) / 16 by omega] at k1
        rw [show (((c.toNat % 16 : Nat)) : Int) = (c.toNat : Int) % 16 by omega] at k2
        have HH := Lib.hid (show G ++ [37, hexB (c.toNat / 16), hexB (c.toNat % 16)] = G ++ quoteC c by rw [HE.out])
        clear hp
        rcases hp2 with h1 | ⟨h1, h2⟩ | ⟨h1, h2, h3⟩
        all_goals
          go_wp2
          refine wp_region_wd (by kernel_rfl) (by kernel_rfl) ?_
          repeat (go_big_quiet_step ((fail)))
          refine wpQuiet_nil ?_
          rintro _ ⟨mx, rfl⟩
          go_wp2
          go_roundw
        all_goals first
          | exact ⟨k + 1, ⟨_, mx.n⟩, by omega, by go_num, by rw [wd_merge], by rw [HS.out, ← HH.out]⟩
          | (simp [intOf]; omega)
    · have hke : k = l.length := by omega
      have hG2 : G = quote l := by rw [hqe.out, ← hG, hke, List.take_length]
      subst hG2
      clear hG
      go_wp2
      go_ret
      exact ⟨rfl, more_wd _ _ _⟩
end Go.Proofs.YtejokhgabcldhaaDoor
