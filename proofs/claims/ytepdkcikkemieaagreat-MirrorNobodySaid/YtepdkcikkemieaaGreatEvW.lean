/- THE ENGINE, 23: the levels of a run by a plan. -/
import Derived.Test.YtepdkcikkemieaaGreatEvV
noncomputable section
namespace Go.Proofs.YtepdkcikkemieaaGreat
open Go.RowKit
set_option linter.unusedVariables false
set_option linter.unusedSimpArgs false
namespace Ev

section
variable {P : Program} {callF : Caller} {ops : Array Oper} {T0 : Tr Value} {H0 : Heap} {M : List Nat} {nt : Nat}
theorem lev_le : ∀ {h : List Ent} {T : Tr Value} {H : Heap} {l : Nat}, HistOk P callF ops T0 H0 h T H l → ∀ e ∈ h, e.l ≤ l
  | [], _, _, _, _, e, he => by simp at he
  | f :: h, T, H, l, hh, e, he => by
    obtain ⟨_, _, hl, _, _, _, l', hl', hr⟩ := hh
    rcases List.mem_cons.1 he with rfl | he
    · omega
    · have := lev_le hr e he
      split at hl' <;> omega
theorem hist_split : ∀ {l1 l2 : List Ent} {e : Ent} {T : Tr Value} {H : Heap} {l : Nat}, HistOk P callF ops T0 H0 (l1 ++ e :: l2) T H l →
    (∃ T' H' l'', HistOk P callF ops T0 H0 (e :: l2) T' H' l'') ∧ (∀ f ∈ l1, e.l ≤ f.l ∧ (isEff f.r = true → e.l < f.l))
  | [], l2, e, T, H, l, hh => ⟨⟨T, H, l, hh⟩, by simp⟩
  | g :: l1, l2, e, T, H, l, hh => by
    obtain ⟨_, _, hl, _, _, _, l', hl', hr⟩ := hh
    obtain ⟨h1, h2⟩ := hist_split hr
    refine ⟨h1, fun f hf => ?_⟩
    have hle := lev_le hr e (by simp)
    rcases List.mem_cons.1 hf with rfl | hf
    · split at hl'
      · exact ⟨by omega, fun _ => by omega⟩
      · next hne => exact ⟨by omega, fun h => absurd h hne⟩
    · exact h2 f hf
theorem eff_ex : ∀ {h : List Ent} {T : Tr Value} {H : Heap} {l : Nat}, HistOk P callF ops T0 H0 h T H l → ∀ k, 1 ≤ k → k ≤ l → ∃ f ∈ h, isEff f.r = true ∧ f.l = k
  | [], _, _, l, hh, k, h1, h2 => by obtain ⟨_, _, rfl⟩ := hh; omega
  | e :: h, T, H, l, hh, k, h1, h2 => by
    obtain ⟨_, _, hl, _, _, _, l', hl', hr⟩ := hh
    split at hl'
    · next he =>
      by_cases hk : k = l
      · exact ⟨e, by simp, he, by omega⟩
      · obtain ⟨f, hf, g⟩ := eff_ex hr k h1 (by omega)
        exact ⟨f, by simp [hf], g⟩
    · obtain ⟨f, hf, g⟩ := eff_ex hr k h1 (by omega)
      exact ⟨f, by simp [hf], g⟩
theorem idx_uniq : ∀ {h : List Ent} {T : Tr Value} {H : Heap} {l : Nat}, HistOk P callF ops T0 H0 h T H l → ∀ e ∈ h, ∀ f ∈ h, e.i = f.i → e = f
  | [], _, _, _, _, e, he, _, _, _ => by simp at he
  | g :: h, T, H, l, hh, e, he, f, hf, hi => by
    obtain ⟨_, _, _, _, hne, _, l', _, hr⟩ := hh
    rcases List.mem_cons.1 he with rfl | he2 <;> rcases List.mem_cons.1 hf with rfl | hf2
    · rfl
    · exact absurd hi.symm (hne f hf2)
    · exact absurd hi (hne e he2)
    · exact idx_uniq hr e he2 f hf2 hi
theorem eff_uniq : ∀ {h : List Ent} {T : Tr Value} {H : Heap} {l : Nat}, HistOk P callF ops T0 H0 h T H l → ∀ e ∈ h, ∀ f ∈ h, isEff e.r = true → isEff f.r = true → e.l = f.l → e = f
  | [], _, _, _, _, e, he, _, _, _, _, _ => by simp at he
  | g :: h, T, H, l, hh, e, he, f, hf, h1, h2, hl => by
    obtain ⟨_, _, hll, _, _, _, l', hl', hr⟩ := hh
    rcases List.mem_cons.1 he with rfl | he2 <;> rcases List.mem_cons.1 hf with rfl | hf2
    · rfl
    · have := lev_le hr f hf2; rw [if_pos h1] at hl'; omega
    · have := lev_le hr e he2; rw [if_pos h2] at hl'; omega
    · exact eff_uniq hr e he2 f hf2 h1 h2 hl
theorem LvlOk.split : ∀ {l1 l2 : List Ent}, LvlOk M (l1 ++ l2) → LvlOk M l2
  | [], _, h => h
  | _ :: l1, _, h => LvlOk.split (l1 := l1) h.2.2
theorem AllChk.split : ∀ {l1 l2 : List Ent}, AllChk P ops M (l1 ++ l2) → AllChk P ops M l2
  | [], _, h => h
  | _ :: l1, _, h => AllChk.split (l1 := l1) h.2
/-- What is laid between two loud operations is but new blocks. -/
structure Facts (H0 : Heap) (h : List Ent) (top : Heap) (l m : Nat) (A B : Heap) : Prop where
  tp : m = l → A = top
  fa : ∀ f ∈ h, isEff f.r = true → f.l = m + 1 → f.H = A
  fb : ∀ f ∈ h, isEff f.r = true → f.l = m → f.H' = B
  f0 : m = 0 → B = H0
  nxt : B.next ≤ A.next
  grow : ∀ φ w, Rel φ B w → Rel φ A w ∧ ∀ b, Own φ A b → Own φ B b
  made : ∀ e ∈ h, e.l = m → ∀ id ob, e.r = .made id ob → B.next ≤ id ∧ id < A.next
  dist : ∀ e ∈ h, ∀ e' ∈ h, e.l = m → e'.l = m → ∀ id ob ob', e.r = .made id ob → e'.r = .made id ob' → e.i = e'.i
theorem ent_grow {e : Ent} (he : EntOk P callF ops e) (hn : isEff e.r = false) : e.H.next ≤ e.H'.next ∧ (∀ φ w, Rel φ e.H w → Rel φ e.H' w ∧ ∀ b, Own φ e.H' b → Own φ e.H b) ∧ ∀ id ob, e.r = .made id ob → id = e.H.next ∧ e.H'.next = e.H.next + 1 := by
  obtain ⟨o, ho, h⟩ := he
  cases hr : e.r with
  | still => rw [hr] at h; obtain ⟨h, _⟩ := h; rw [h]; exact ⟨Nat.le_refl _, fun φ w hR => ⟨hR, fun b hb => hb⟩, fun id ob h => by cases h⟩
  | read => rw [hr] at h; obtain ⟨h, _⟩ := h; rw [h]; exact ⟨Nat.le_refl _, fun φ w hR => ⟨hR, fun b hb => hb⟩, fun id ob h => by cases h⟩
  | made id ob =>
    rw [hr] at h
    obtain ⟨_, h1, h2, _⟩ := h
    have hnx := Heap.add_next h2
    refine ⟨by omega, fun φ w hR => ?_, fun id' ob' h => by cases h; exact ⟨h1, hnx⟩⟩
    obtain ⟨g1, g2⟩ := hR.phantom h2
    refine ⟨g1, fun b hb => ?_⟩
    obtain ⟨j, p, C, k1, k2, k3⟩ := hb
    rw [Heap.add_get h2] at k1
    split at k1
    · next hj => subst hj; rw [g2] at k2; cases k2
    · exact ⟨j, p, C, k1, k2, k3⟩
  | eff => rw [hr] at hn; cases hn
theorem facts : ∀ {h : List Ent} {T : Tr Value} {H : Heap} {l : Nat}, HistOk P callF ops T0 H0 h T H l → ∀ m, m ≤ l → ∃ A B, Facts H0 h H l m A B
  | [], T, H, l, hh, m, hm => by
    obtain ⟨_, rfl, rfl⟩ := hh
    refine ⟨H, H, ⟨fun _ => rfl, by simp, by simp, fun _ => rfl, Nat.le_refl _, fun φ w hR => ⟨hR, fun b hb => hb⟩, by simp, by simp⟩⟩
  | e :: h, T, H, l, hh, m, hm => by
    have hh0 := hh
    obtain ⟨_, hH, hl, hent, hne, _, l', hl', hr⟩ := hh
    cases hE : isEff e.r with
    | false =>
      rw [hE] at hl'
      simp only [Bool.false_eq_true, if_false] at hl'
      obtain ⟨g1, g2, g3⟩ := ent_grow hent hE
      obtain ⟨A, B, F⟩ := facts hr m (by omega)
      by_cases hml : m = l'
      · have hA := F.tp hml
        refine ⟨e.H', B, ⟨fun _ => hH.symm, fun f hf hfe hfl => ?_, fun f hf hfe hfl => ?_, F.f0, ?_, fun φ w hR => ?_, fun f hf hfl id ob hr' => ?_, fun f hf f' hf' hfl hfl' id ob ob' hr1 hr2 => ?_⟩⟩
        · rcases List.mem_cons.1 hf with rfl | hf
          · rw [hE] at hfe; cases hfe
          · have := lev_le hr f hf; omega
        · rcases List.mem_cons.1 hf with rfl | hf
          · rw [hE] at hfe; cases hfe
          · exact F.fb f hf hfe hfl
        · have := F.nxt; rw [hA] at this; omega
        · obtain ⟨k1, k2⟩ := F.grow φ w hR
          rw [hA] at k1 k2
          obtain ⟨k3, k4⟩ := g2 φ w k1
          exact ⟨k3, fun b hb => k2 b (k4 b hb)⟩
        · have hn := F.nxt
          rw [hA] at hn
          rcases List.mem_cons.1 hf with rfl | hf
          · obtain ⟨q1, q2⟩ := g3 id ob hr'; omega
          · have := F.made f hf hfl id ob hr'; rw [hA] at this; omega
        · rcases List.mem_cons.1 hf with rfl | hf2 <;> rcases List.mem_cons.1 hf' with rfl | hf2'
          · rfl
          · have := (F.made f' hf2' hfl' id ob' hr2).2
            rw [hA] at this
            have := (g3 id ob hr1).1; omega
          · have := (F.made f hf2 hfl id ob hr1).2
            rw [hA] at this
            have := (g3 id ob' hr2).1; omega
          · exact F.dist f hf2 f' hf2' hfl hfl' id ob ob' hr1 hr2
      · refine ⟨A, B, ⟨fun h => by omega, fun f hf hfe hfl => ?_, fun f hf hfe hfl => ?_, F.f0, F.nxt, F.grow, fun f hf hfl id ob hr' => ?_, fun f hf f' hf' hfl hfl' id ob ob' hr1 hr2 => ?_⟩⟩
        · rcases List.mem_cons.1 hf with rfl | hf
          · rw [hE] at hfe; cases hfe
          · exact F.fa f hf hfe hfl
        · rcases List.mem_cons.1 hf with rfl | hf
          · rw [hE] at hfe; cases hfe
          · exact F.fb f hf hfe hfl
        · rcases List.mem_cons.1 hf with rfl | hf
          · omega
          · exact F.made f hf hfl id ob hr'
        · rcases List.mem_cons.1 hf with rfl | hf
          · omega
          · rcases List.mem_cons.1 hf' with rfl | hf'
            · omega
            · exact F.dist f hf f' hf' hfl hfl' id ob ob' hr1 hr2
    | true =>
      rw [hE] at hl'
      simp only [if_true] at hl'
      have hnm : ∀ id ob, e.r ≠ .made id ob := fun id ob h => by rw [h] at hE; cases hE
      by_cases hml : m = l
      · refine ⟨e.H', e.H', ⟨fun _ => hH.symm, fun f hf hfe hfl => ?_, fun f hf hfe hfl => ?_, fun h => by omega, Nat.le_refl _, fun φ w hR => ⟨hR, fun b hb => hb⟩, fun f hf hfl id ob hr' => ?_, fun f hf f' hf' hfl hfl' id ob ob' hr1 hr2 => ?_⟩⟩
        · have := lev_le hh0 f hf; omega
        · rcases List.mem_cons.1 hf with rfl | hf
          · rfl
          · have := lev_le hr f hf; omega
        · rcases List.mem_cons.1 hf with rfl | hf
          · exact absurd hr' (hnm id ob)
          · have := lev_le hr f hf; omega
        · rcases List.mem_cons.1 hf with rfl | hf
          · exact absurd hr1 (hnm id ob)
          · have := lev_le hr f hf; omega
      · obtain ⟨A, B, F⟩ := facts hr m (by omega)
        refine ⟨A, B, ⟨fun h => absurd h hml, fun f hf hfe hfl => ?_, fun f hf hfe hfl => ?_, F.f0, F.nxt, F.grow, fun f hf hfl id ob hr' => ?_, fun f hf f' hf' hfl hfl' id ob ob' hr1 hr2 => ?_⟩⟩
        · rcases List.mem_cons.1 hf with rfl | hf
          · exact (F.tp (by omega)).symm
          · exact F.fa f hf hfe hfl
        · rcases List.mem_cons.1 hf with rfl | hf
          · omega
          · exact F.fb f hf hfe hfl
        · rcases List.mem_cons.1 hf with rfl | hf
          · exact absurd hr' (hnm id ob)
          · exact F.made f hf hfl id ob hr'
        · rcases List.mem_cons.1 hf with rfl | hf
          · exact absurd hr1 (hnm id ob)
          · rcases List.mem_cons.1 hf' with rfl | hf'
            · exact absurd hr2 (hnm id ob')
            · exact F.dist f hf f' hf' hfl hfl' id ob ob' hr1 hr2
/-- What was checked, at each level. -/
theorem chk_all {s : PS} {A B : Nat → Heap} (hF : Final P callF ops T0 H0 M s) (hc : ChkAt P ops M s.hist s.H s.l) (hAB : ∀ m, m ≤ s.l → Facts H0 s.hist s.H s.l m (A m) (B m)) (m : Nat) (hm : m ≤ s.l) (e : Ent) (he : e ∈ s.hist) (hn : isEff e.r = false) (hle : e.l ≤ m)
    (hcond : e.l = m ∨ ∀ f : Ent, f ∈ s.hist → isEff f.r = true → f.l = m → dep' M f.i e.i = false) : RecOk P ops e (A m) := by
  by_cases hml : m = s.l
  · rw [(hAB m hm).tp hml]
    subst hml
    exact hc e he hn hcond
  · obtain ⟨g, hg, hge, hgl⟩ := eff_ex hF.ok (m + 1) (by omega) (by omega)
    rw [← (hAB m hm).fa g hg hge hgl]
    obtain ⟨l1, l2, hsp⟩ := List.append_of_mem hg
    have hok := hF.ok
    unfold PS.Ok at hok
    rw [hsp] at hok
    obtain ⟨_, hlow⟩ := hist_split hok
    have hchk := hF.chk
    rw [hsp] at hchk
    have := (AllChk.split hchk).1 hge m hgl
    refine this e ?_ hn ?_
    · rw [hsp] at he
      rcases List.mem_append.1 he with he | he
      · have := (hlow e he).1; omega
      · rcases List.mem_cons.1 he with rfl | he
        · rw [hn] at hge; cases hge
        · exact he
    · rcases hcond with h | h
      · exact .inl h
      · exact .inr fun f hf => h f (by rw [hsp]; simp [hf])
/-- A level before is open as soon as one of its own may come up. -/
theorem open_before {s : PS} (hF : Final P callF ops T0 H0 M s) {e : Ent} (he : e ∈ s.hist) (k : Nat) (hk : 1 ≤ k) (hek : if isEff e.r then k + 1 = e.l else k = e.l) : ∃ f ∈ s.hist, isEff f.r = true ∧ f.l = k ∧ dep' M e.i f.i = true := by
  obtain ⟨l1, l2, hsp⟩ := List.append_of_mem he
  have hok := hF.ok
  unfold PS.Ok at hok
  rw [hsp] at hok
  obtain ⟨⟨T', H', l'', hh⟩, _⟩ := hist_split hok
  obtain ⟨_, _, _, _, _, _, l', hl', hr⟩ := hh
  have hlv := hF.lvl
  rw [hsp] at hlv
  have hlv := LvlOk.split hlv
  cases hE : isEff e.r with
  | true =>
    rw [hE] at hek hl'
    simp only [if_true] at hek hl'
    obtain ⟨f, hf, h1, h2⟩ := eff_ex hr k hk (by omega)
    exact ⟨f, by rw [hsp]; simp [hf], h1, h2, hlv.2.1 hE f hf h1 (by omega)⟩
  | false =>
    rw [hE] at hek hl'
    simp only [Bool.false_eq_true, if_false] at hek hl'
    obtain ⟨f, hf, h1, h2⟩ := eff_ex hr k hk (by omega)
    exact ⟨f, by rw [hsp]; simp [hf], h1, h2, hlv.1 hE f hf h1 (by omega)⟩
end
end Ev
end Go.Proofs.YtepdkcikkemieaaGreat
