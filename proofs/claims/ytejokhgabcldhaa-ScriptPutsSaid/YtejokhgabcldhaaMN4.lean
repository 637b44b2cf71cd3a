/- wire: a request with just the fields of its kind: what it tells. -/
import Derived.Test.YtejokhgabcldhaaML
namespace Go.Proofs.Ytejokhgabcldhaa
open Go.ChangeShapes Go.WideShapes Go.ChangeAt Go.RowKit
set_option linter.unusedVariables false
set_option linter.unusedSimpArgs false

theorem uses_one (k : Nat) : usesL k = [116, 112, 99] ∨ usesL k = [116] ∨ usesL k = [116, 105, 102, 98] ∨ usesL k = [116, 105, 111, 109] ∨ usesL k = [116, 105, 119] ∨ usesL k = [103, 107] ∨ usesL k = [116, 103, 107, 110] ∨ usesL k = [103, 107, 110] ∨ usesL k = [116, 105, 111, 103, 107, 110] ∨ usesL k = [116, 105, 103] ∨ usesL k = [] := by
  have h := uses_mem k
  simp only [usesAll, List.mem_cons, List.not_mem_nil, or_false] at h
  exact h
/-- A request with just its fields, handed back. -/
structure OnlyRet (w w' : World) (x : Ending) (q : Req) (a : Option Addr) : Prop where
  out : ∃ a' c', x = .returned (.agg (rq (reqOnly q) a' c')) ∧ (∀ W, RecsAt W a q.batch.recs → RecsAt W a' (reqOnly q).batch.recs) ∧ More w w'
theorem only_any (q : Req) (a : Option Addr) (cap : Nat) (w : World) (hk : q.kind < 256) : Calls Try.prog 101 #[.agg (rq q a cap)] w fun x w' => OnlyRet w w' x q a := by
  rcases uses_one q.kind with h | h | h | h | h | h | h | h | h | h | h
  · refine (only_tpc q a cap w hk h).mono ?_
    rintro x w' ⟨rfl, hm⟩
    exact ⟨none, 0, rfl, fun W hW => by rw [only_val_tpc q h]; exact RowAt.nil _, hm⟩
  · refine (only_t q a cap w hk h).mono ?_
    rintro x w' ⟨rfl, hm⟩
    exact ⟨none, 0, rfl, fun W hW => by rw [only_val_t q h]; exact RowAt.nil _, hm⟩
  · refine (only_tifb q a cap w hk h).mono ?_
    rintro x w' ⟨rfl, hm⟩
    exact ⟨a, cap, rfl, fun W hW => by rw [only_val_tifb q h]; exact hW, hm⟩
  · refine (only_tiom q a cap w hk h).mono ?_
    rintro x w' ⟨rfl, hm⟩
    exact ⟨none, 0, rfl, fun W hW => by rw [only_val_tiom q h]; exact RowAt.nil _, hm⟩
  · refine (only_tiw q a cap w hk h).mono ?_
    rintro x w' ⟨rfl, hm⟩
    exact ⟨none, 0, rfl, fun W hW => by rw [only_val_tiw q h]; exact RowAt.nil _, hm⟩
  · refine (only_gk q a cap w hk h).mono ?_
    rintro x w' ⟨rfl, hm⟩
    exact ⟨none, 0, rfl, fun W hW => by rw [only_val_gk q h]; exact RowAt.nil _, hm⟩
  · refine (only_tgkn q a cap w hk h).mono ?_
    rintro x w' ⟨rfl, hm⟩
    exact ⟨none, 0, rfl, fun W hW => by rw [only_val_tgkn q h]; exact RowAt.nil _, hm⟩
  · refine (only_gkn q a cap w hk h).mono ?_
    rintro x w' ⟨rfl, hm⟩
    exact ⟨none, 0, rfl, fun W hW => by rw [only_val_gkn q h]; exact RowAt.nil _, hm⟩
  · refine (only_tiogkn q a cap w hk h).mono ?_
    rintro x w' ⟨rfl, hm⟩
    exact ⟨none, 0, rfl, fun W hW => by rw [only_val_tiogkn q h]; exact RowAt.nil _, hm⟩
  · refine (only_tig q a cap w hk h).mono ?_
    rintro x w' ⟨rfl, hm⟩
    exact ⟨none, 0, rfl, fun W hW => by rw [only_val_tig q h]; exact RowAt.nil _, hm⟩
  · refine (only_no q a cap w hk h).mono ?_
    rintro x w' ⟨rfl, hm⟩
    exact ⟨none, 0, rfl, fun W hW => by rw [only_val_no q h]; exact RowAt.nil _, hm⟩
theorem only_len (q : Req) : (reqOnly q).batch.recs.length ≤ q.batch.recs.length := by
  unfold reqOnly
  dsimp only
  split
  · exact Nat.le_refl _
  · exact Nat.zero_le _
theorem only_clean (q : Req) : q = reqOnly q ↔ reqClean q = reqBlank q.kind := by
  rcases uses_one q.kind with h | h | h | h | h | h | h | h | h | h | h
  · rw [only_val_tpc q h]; unfold reqClean; rw [h]; simp only [List.foldl, rz_116, rz_112, rz_99]; rw [req_eq, req_eq]; simp [reqBlank]
  · rw [only_val_t q h]; unfold reqClean; rw [h]; simp only [List.foldl, rz_116]; rw [req_eq, req_eq]; simp [reqBlank]
  · rw [only_val_tifb q h]; unfold reqClean; rw [h]; simp only [List.foldl, rz_116, rz_105, rz_102, rz_98]; rw [req_eq, req_eq]; simp [reqBlank]
  · rw [only_val_tiom q h]; unfold reqClean; rw [h]; simp only [List.foldl, rz_116, rz_105, rz_111, rz_109]; rw [req_eq, req_eq]; simp [reqBlank]
  · rw [only_val_tiw q h]; unfold reqClean; rw [h]; simp only [List.foldl, rz_116, rz_105, rz_119]; rw [req_eq, req_eq]; simp [reqBlank]
  · rw [only_val_gk q h]; unfold reqClean; rw [h]; simp only [List.foldl, rz_103, rz_107]; rw [req_eq, req_eq]; simp [reqBlank]
  · rw [only_val_tgkn q h]; unfold reqClean; rw [h]; simp only [List.foldl, rz_116, rz_103, rz_107, rz_110]; rw [req_eq, req_eq]; simp [reqBlank]
  · rw [only_val_gkn q h]; unfold reqClean; rw [h]; simp only [List.foldl, rz_103, rz_107, rz_110]; rw [req_eq, req_eq]; simp [reqBlank]
  · rw [only_val_tiogkn q h]; unfold reqClean; rw [h]; simp only [List.foldl, rz_116, rz_105, rz_111, rz_103, rz_107, rz_110]; rw [req_eq, req_eq]; simp [reqBlank]
  · rw [only_val_tig q h]; unfold reqClean; rw [h]; simp only [List.foldl, rz_116, rz_105, rz_103]; rw [req_eq, req_eq]; simp [reqBlank]
  · rw [only_val_no q h]; unfold reqClean; rw [h]; simp only [List.foldl]; rw [req_eq, req_eq]; simp [reqBlank]
end Go.Proofs.Ytejokhgabcldhaa
