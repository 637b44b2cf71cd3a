/- THE ENGINE: strings.Builder's methods known beforehand. -/
import Derived.Test.YtifoekadjnlhcaaGreatDoorMX
import Derived.Test.YtifoekadjnlhcaaGreatDoorEM
namespace Go.Proofs.YtifoekadjnlhcaaGreatDoor
open Go.Shelf Go.ChangeShapes Go.WideShapes Go.ChangeAt Go.RowKit
set_option linter.unusedVariables false
set_option linter.unusedSimpArgs false
set_option maxRecDepth 100000
noncomputable section
namespace Ev
def ptrIs (r : Nat) : Value → Bool
  | .pointer none => true
  | .pointer (some ⟨b, 0, none⟩) => Nat.beq b r
  | _ => false
def bufD (H : Heap) : Value → Option (List Value × Option Nat)
  | .slice none 0 0 => some ([], none)
  | .slice (some ⟨g, 0, none⟩) n c => match H.get g with
    | some (.typed t l true) => if t = 5 ∧ l.length = n ∧ c = BIG + n then some (l, some g) else none
    | _ => none
  | _ => none
def wrD (H : Heap) (r : Nat) (s : ByteArray) : Option (Value × Heap) := match H.get r with
  | some (.typed t [p, x] false) => if t = bldT ∧ ptrIs r p = true then match bufD H x with
    | some (l, og) => if 0 < s.size ∧ l.length + s.size ≤ 1099511627776 then match H.kill og with
      | some H1 => match H1.set r (some (.typed bldT [.pointer (some ⟨r, 0, none⟩), .slice (some ⟨H.next, 0, none⟩) (l.length + s.size) (BIG + (l.length + s.size))] false)) with
        | some H2 => match H2.add (.typed 5 (l ++ Lib.strCells s) true) with
          | some H3 => some (.tuple ⟨[.int .i64 s.size, .nilIface]⟩, H3)
          | none => none
        | none => none
      | none => none
      else none
    | none => none
    else none
  | _ => none
def wrA (args : List Value) (H : Heap) : Option (Value × Heap) := match args with
  | [.pointer (some ⟨r, 0, none⟩), .string s] => wrD H r s
  | _ => none
def asBytes : List Value → Option (List UInt8)
  | [] => some []
  | .int .u8 (.ofNat k) :: l => if k < 256 then match asBytes l with
    | some r => some (UInt8.ofNat k :: r)
    | none => none
    else none
  | _ => none
def stD (H : Heap) (r : Nat) : Option (Value × Heap) := match H.get r with
  | some (.typed t [p, x] false) => if t = bldT ∧ ptrIs r p = true then match bufD H x with
    | some (l, none) => some (.string ⟨#[]⟩, H)
    | some (l, some g) => match asBytes l with
      | some (c :: k) => match H.kill (some g) with
        | some H1 => some (.string ⟨⟨c :: k⟩⟩, H1)
        | none => none
      | _ => none
    | none => none
    else none
  | _ => none
def stA (args : List Value) (H : Heap) : Option (Value × Heap) := match args with
  | [.pointer (some ⟨r, 0, none⟩)] => stD H r
  | _ => none
theorem asBytes_some : ∀ {l : List Value} {k : List UInt8}, asBytes l = some k → l = Lib.byteCells k
  | [], k, h => by simp only [asBytes, Option.some.injEq] at h; subst h; rfl
  | v :: l, k, h => by
    unfold asBytes at h
    split at h
    · cases ‹_ :: _ = []›
    · next n l' e =>
      cases e
      split at h
      · next hn =>
        split at h
        · next r hr =>
          simp only [Option.some.injEq] at h
          subst h
          rw [asBytes_some hr]
          have : (UInt8.ofNat n).toNat = n := by rw [UInt8.toNat_ofNat']; omega
          simp only [Lib.byteCells, List.map_cons, this]
          rfl
        · cases h
      · cases h
    · cases h
theorem bufD_some {H : Heap} {x : Value} {l : List Value} {og : Option Nat} (h : bufD H x = some (l, og)) :
    (x = .slice none 0 0 ∧ l = [] ∧ og = none) ∨ ∃ g, x = .slice (some ⟨g, 0, none⟩) l.length (BIG + l.length) ∧ H.get g = some (.typed 5 l true) ∧ og = some g := by
  unfold bufD at h
  split at h
  · cases h; exact .inl ⟨rfl, rfl, rfl⟩
  · split at h
    · next hg =>
      split at h
      · next hc =>
        obtain ⟨rfl, rfl, rfl⟩ := hc
        cases h
        exact .inr ⟨_, rfl, hg, rfl⟩
      · cases h
    · cases h
  · cases h
theorem wrD_some {H H3 : Heap} {r : Nat} {s : ByteArray} {v : Value} (h : wrD H r s = some (v, H3)) : ∃ p x l og H1 H2, H.get r = some (.typed bldT [p, x] false) ∧ ptrIs r p = true ∧ bufD H x = some (l, og) ∧ 0 < s.size ∧ l.length + s.size ≤ 1099511627776 ∧ H.kill og = some H1 ∧
    H1.set r (some (.typed bldT [.pointer (some ⟨r, 0, none⟩), .slice (some ⟨H.next, 0, none⟩) (l.length + s.size) (BIG + (l.length + s.size))] false)) = some H2 ∧ H2.add (.typed 5 (l ++ Lib.strCells s) true) = some H3 ∧ v = .tuple ⟨[.int .i64 s.size, .nilIface]⟩ := by
  unfold wrD at h
  split at h
  · next t p x hg =>
    split at h
    · next hc =>
      obtain ⟨rfl, hp⟩ := hc
      split at h
      · next l og hb =>
        split at h
        · next hs =>
          split at h
          · next H1 h1 =>
            split at h
            · next H2 h2 =>
              split at h
              · next H3' h3 => cases h; exact ⟨p, x, l, og, H1, H2, hg, hp, hb, hs.1, hs.2, h1, h2, h3, rfl⟩
              · cases h
            · cases h
          · cases h
        · cases h
      · cases h
    · cases h
  · cases h
theorem stD_some {H H' : Heap} {r : Nat} {v : Value} (h : stD H r = some (v, H')) : ∃ p x l og, H.get r = some (.typed bldT [p, x] false) ∧ ptrIs r p = true ∧ bufD H x = some (l, og) ∧
    ((og = none ∧ v = .string ⟨#[]⟩ ∧ H' = H) ∨ ∃ g k, og = some g ∧ l = Lib.byteCells k ∧ k ≠ [] ∧ v = .string ⟨k.toArray⟩ ∧ H.kill (some g) = some H') := by
  unfold stD at h
  split at h
  · next t p x hg =>
    split at h
    · next hc =>
      obtain ⟨rfl, hp⟩ := hc
      split at h
      · next l hb => cases h; exact ⟨p, x, l, none, hg, hp, hb, .inl ⟨rfl, rfl, rfl⟩⟩
      · next l g hb =>
        split at h
        · next c k hk =>
          split at h
          · next H1 h1 => cases h; exact ⟨p, x, l, some g, hg, hp, hb, .inr ⟨g, c :: k, rfl, asBytes_some hk, by simp, rfl, h1⟩⟩
          · cases h
        · cases h
      · cases h
    · cases h
  · cases h
section
variable {φ : Phi} {H H1 H2 H3 : Heap} {w w' : World} {r : Nat} {B : Blk}
theorem typed_alone (hR : Rel φ H w) {t : TypeId} {l : List Value} {room : Bool} (hg : H.get r = some (.typed t l room)) (hB : φ.at_ r = some B) {i : Nat} {o : AObj} {C : Blk} (hi : H.get i = some o) (hC : φ.at_ i = some C) (he : B.blk = C.blk) : r = i := by
  rcases hR.alias r i _ _ B C hg hi hB hC he with h | h
  · exact h
  · cases h
theorem bld_of (hR : Rel φ H w) (hB : φ.at_ r = some B) {p x : Value} {l : List Value} {og : Option Nat} (hg : H.get r = some (.typed bldT [p, x] false)) (hp : ptrIs r p = true) (hx : bufD H x = some (l, og)) :
    B.base = 0 ∧ B.exc = 0 ∧ ∃ V xs, BldAt w B.blk V xs ∧ concL φ l = some xs ∧ ((V = .slice none 0 0 ∧ l = [] ∧ og = none) ∨
      ∃ g G cs, og = some g ∧ φ.at_ g = some G ∧ G.base = 0 ∧ H.get g = some (.typed 5 l true) ∧ g ≠ r ∧ V = .slice (some ⟨G.blk, 0, none⟩) l.length (l.length + G.exc) ∧ w.heap[G.blk]? = some (.cells cs 5 (0, 0)) ∧ cs.size = l.length + G.exc ∧ cs.size ≤ maxLen ∧ cs.toList.take l.length = xs) := by
  obtain ⟨c, hc, ho⟩ := hR.objs r _ B hg hB
  obtain ⟨h0, hexc, ys, cs, rfl, hys, hsz, htk, _⟩ := ho
  have he := hexc rfl
  refine ⟨h0, he, ?_⟩
  have hlen : cs.toList = ys := by rw [← htk, List.take_of_length_le]; simp [hsz, he]
  cases hP : conc φ p with
  | none => simp [concL, hP] at hys
  | some P =>
    cases hX : conc φ x with
    | none => simp [concL, hP, hX] at hys
    | some X =>
      simp only [concL, hP, hX, Option.some.injEq] at hys
      subst hys
      have hcs : cs = #[P, X] := by apply Array.toList_inj.1; rw [hlen]
      subst hcs
      have hq : ∃ q, (q = none ∨ q = some ⟨B.blk, 0, none⟩) ∧ P = .pointer q := by
        unfold ptrIs at hp
        split at hp
        · simp only [conc, Option.some.injEq] at hP; exact ⟨none, .inl rfl, hP.symm⟩
        · next b =>
          obtain rfl := Nat.eq_of_beq_eq_true hp
          simp [conc, concA, hB, h0] at hP
          exact ⟨_, .inr rfl, hP.symm⟩
        · cases hp
      obtain ⟨q, hq, rfl⟩ := hq
      rcases bufD_some hx with ⟨rfl, rfl, rfl⟩ | ⟨g, rfl, hgg, rfl⟩
      · simp only [conc, Option.some.injEq] at hX
        subst hX
        exact ⟨_, [], ⟨⟨q, hq, hc⟩, World.ownsRow_nil w _ _ 1, by simp [Value.ownBlock]⟩, rfl, .inl ⟨rfl, rfl, rfl⟩⟩
      · cases hG : φ.at_ g with
        | none => simp [conc, concA, hG] at hX
        | some G =>
          obtain ⟨c2, hc2, ho2⟩ := hR.objs g _ G hgg hG
          obtain ⟨g0, _, zs, cs2, rfl, hzs, hsz2, htk2, hmx⟩ := ho2
          have hm := hmx rfl
          have hgr : g ≠ r := fun e => by subst e; rw [hg] at hgg; cases hgg
          have hX2 : X = .slice (some ⟨G.blk, 0, none⟩) l.length (l.length + G.exc) := by
            have h1 : ¬ (BIG + l.length < BIG) := by omega
            simp [conc, concA, hG, g0, h1] at hX
            exact hX.symm
          subst hX2
          have hzl := concL_len hzs
          refine ⟨_, zs, ⟨⟨q, hq, hc⟩, ⟨by rw [Nat.mul_one], .inr ⟨G.blk, _, cs2, by rw [hzl], Nat.zero_le _, hc2, by omega, by omega, by omega, by rw [hzl, Nat.mul_one]; exact htk2⟩⟩, ?_⟩, hzs, .inr ⟨g, G, cs2, rfl, hG, g0, hgg, hgr, rfl, hc2, hsz2, hm, htk2⟩⟩
          simp only [Value.ownBlock, ne_eq, Option.some.injEq]
          exact fun e => hgr (typed_alone hR hgg hG hg hB e)
theorem wrote_rel (hR : Rel φ H w) (hB : φ.at_ r = some B) {t0 : TypeId} {c0 : List Value} (hg : H.get r = some (.typed t0 c0 false)) {og : Option Nat}
    (hog : ∀ g, og = some g → g ≠ r ∧ ∃ G t l b, φ.at_ g = some G ∧ H.get g = some (.typed t l b)) {o2 o3 : AObj} (hm2 : o2.mate = none) (hm3 : o3.mate = none)
    (hk : H.kill og = some H1) (hs : H1.set r (some o2) = some H2) (ha : H2.add o3 = some H3) {g' e : Nat} (hlt : g' < w'.heap.size) (hown : (∃ g G, og = some g ∧ φ.at_ g = some G ∧ G.blk = g') ∨ w.heap.size ≤ g') (hgb : g' ≠ B.blk)
    (h1 : w'.os = w.os) (h2 : w'.tape = w.tape) (h3 : w'.output = w.output) (h4 : w.heap.size ≤ w'.heap.size) (h5 : ∀ k, k < w.heap.size → k ≠ B.blk → (∀ g G, og = some g → φ.at_ g = some G → G.blk ≠ k) → w'.heap[k]? = w.heap[k]?)
    {x2 x3 : Obj} (hx2 : w'.heap[B.blk]? = some x2) (hx3 : w'.heap[g']? = some x3) (hi2 : objIs (φ.put H.next ⟨g', 0, e⟩) o2 B x2) (hi3 : objIs (φ.put H.next ⟨g', 0, e⟩) o3 ⟨g', 0, e⟩ x3) :
    Rel (φ.put H.next ⟨g', 0, e⟩) H3 w' ∧ Step φ H w (φ.put H.next ⟨g', 0, e⟩) H3 w' := by
  have hn : φ.at_ H.next = none := by
    cases hb : φ.at_ H.next with
    | none => rfl
    | some b => exact absurd (hR.dom _ _ hb).1 (Nat.lt_irrefl _)
  have hle := Phi.le_put (B := ⟨g', 0, e⟩) hn
  have n2 : H2.next = H.next := by rw [Heap.set_next hs, Heap.kill_next hk]
  have n3 : H3.next = H.next + 1 := by rw [Heap.add_next ha, n2]
  have hr := (hR.dom r B hB).1
  have hget : ∀ m, H3.get m = if m = H.next then some o3 else if m = r then some o2 else if og = some m then none else H.get m := fun m => by
    rw [Heap.add_get ha, n2, Heap.set_get hs, Heap.kill_get hk]
  have hold : ∀ m o, m ≠ H.next → m ≠ r → H3.get m = some o → H.get m = some o ∧ og ≠ some m := fun m o e1 e2 h => by
    rw [hget, if_neg e1, if_neg e2] at h
    split at h
    · cases h
    · next hne => exact ⟨h, hne⟩
  have hne : ∀ m o C, m ≠ H.next → m ≠ r → H3.get m = some o → φ.at_ m = some C → C.blk ≠ B.blk ∧ C.blk ≠ g' ∧ (∀ g G, og = some g → φ.at_ g = some G → G.blk ≠ C.blk) := fun m o C e1 e2 h hC => by
    obtain ⟨ho, hg2⟩ := hold m o e1 e2 h
    have hx : ∀ g G, og = some g → φ.at_ g = some G → G.blk ≠ C.blk := fun g G eg hG he => by
      obtain ⟨_, G', t, l, b, k1, k2⟩ := hog g eg
      have := typed_alone hR k2 hG ho hC he
      exact hg2 (by rw [eg, this])
    refine ⟨fun he => e2 (typed_alone hR hg hB ho hC he.symm).symm, fun he => ?_, hx⟩
    rcases hown with ⟨g, G, k1, k2, k3⟩ | hw
    · exact hx g G k1 k2 (by rw [k3, he])
    · have := (hR.dom m C hC).2; omega
  refine ⟨⟨fun m o C ho hC => ?_, fun m C hC => ?_, fun i j o p C D hi hj bi bj he => ?_⟩, ⟨hle, fun id C hC => ?_, h4, fun b hb hn2 => ?_, fun b hb ho => ?_, by omega, h2, h1, h3⟩⟩
  · by_cases e1 : m = H.next
    · subst e1
      rw [Phi.put_at] at hC; cases hC
      rw [hget, if_pos rfl] at ho; cases ho
      exact ⟨x3, hx3, hi3⟩
    · rw [Phi.put_ne e1] at hC
      by_cases e2 : m = r
      · subst e2
        rw [hB] at hC; cases hC
        rw [hget, if_neg e1, if_pos rfl] at ho; cases ho
        exact ⟨x2, hx2, hi2⟩
      · obtain ⟨k1, k2, k3⟩ := hne m o C e1 e2 ho hC
        obtain ⟨c, k4, k5⟩ := hR.objs m o C (hold m o e1 e2 ho).1 hC
        exact ⟨c, by rw [h5 _ (hR.dom m C hC).2 k1 k3]; exact k4, objIs_le hle k5⟩
  · rw [n3]
    by_cases e1 : m = H.next
    · subst e1; rw [Phi.put_at] at hC; cases hC; exact ⟨by omega, hlt⟩
    · rw [Phi.put_ne e1] at hC
      have := hR.dom m C hC
      exact ⟨by omega, by omega⟩
  · by_cases a1 : i = H.next
    · by_cases a2 : j = H.next
      · exact .inl (a1.trans a2.symm)
      · subst a1
        rw [Phi.put_at] at bi; cases bi
        rw [Phi.put_ne a2] at bj
        by_cases a3 : j = r
        · subst a3; rw [hB] at bj; cases bj; exact absurd he hgb
        · exact absurd he.symm (hne j p D a2 a3 hj bj).2.1
    · rw [Phi.put_ne a1] at bi
      by_cases a2 : j = H.next
      · subst a2
        rw [Phi.put_at] at bj; cases bj
        by_cases a3 : i = r
        · subst a3; rw [hB] at bi; cases bi; exact absurd he.symm hgb
        · exact absurd he (hne i o C a1 a3 hi bi).2.1
      · rw [Phi.put_ne a2] at bj
        by_cases a3 : i = r
        · by_cases a4 : j = r
          · exact .inl (a3.trans a4.symm)
          · subst a3; rw [hB] at bi; cases bi
            exact absurd he.symm (hne j p D a2 a4 hj bj).1
        · by_cases a4 : j = r
          · subst a4; rw [hB] at bj; cases bj
            exact absurd he (hne i o C a1 a3 hi bi).1
          · exact hR.alias i j o p C D (hold i o a1 a3 hi).1 (hold j p a2 a4 hj).1 bi bj he
  · by_cases e1 : id = H.next
    · exact .inr (by omega)
    · rw [Phi.put_ne e1] at hC; exact .inl hC
  · exact h5 b hb (fun he => hn2 ⟨r, _, B, hg, hB, he.symm⟩) (fun g G k1 k2 k3 => by
      obtain ⟨_, G', t, l, b', k4, k5⟩ := hog g k1
      exact hn2 ⟨g, _, G, k5, k2, k3⟩)
  · obtain ⟨id, o, C, k1, k2, k3⟩ := ho
    by_cases e1 : id = H.next
    · subst e1
      rw [Phi.put_at] at k2; cases k2
      rcases hown with ⟨g, G, k4, k5, k6⟩ | hw
      · obtain ⟨_, G', t, l, b', k7, k8⟩ := hog g k4
        exact ⟨g, _, G, k8, k5, k6.trans k3⟩
      · simp only at k3; omega
    · rw [Phi.put_ne e1] at k2
      by_cases e2 : id = r
      · subst e2; rw [hB] at k2; cases k2; exact ⟨id, _, B, hg, hB, k3⟩
      · exact ⟨id, o, C, (hold id o e1 e2 k1).1, k2, k3⟩
theorem strCells_plain (s : ByteArray) : (Lib.strCells s).all plainS = true := by
  rw [List.all_eq_true]
  intro u hu
  simp only [Lib.strCells, List.mem_map] at hu
  obtain ⟨b, _, rfl⟩ := hu
  rfl
theorem concL_append {l1 l2 x1 x2 : List Value} (h1 : concL φ l1 = some x1) (h2 : concL φ l2 = some x2) : concL φ (l1 ++ l2) = some (x1 ++ x2) := by
  induction l1 generalizing x1 with
  | nil => simp only [concL, Option.some.injEq] at h1; subst h1; exact h2
  | cons v l ih =>
    simp only [concL] at h1
    split at h1
    · next a b ha hb =>
      cases h1
      simp only [List.cons_append, concL, ha, ih hb]
    · cases h1
theorem wr_ok (hR : Rel φ H w) {s : ByteArray} {v : Value} {H' : Heap} (h : wrD H r s = some (v, H')) : Gives Tryz.prog φ H w 44 [.pointer (some ⟨r, 0, none⟩), .string s] v H' := by
  obtain ⟨p, x, l, og, H1, H2, hg, hp, hx, hs0, hs1, hk, hs, ha, rfl⟩ := wrD_some h
  intro A hA
  cases hB : φ.at_ r with
  | none => simp [concL, conc, concA, hB] at hA
  | some B =>
    obtain ⟨h0, hexc, V, xs, hbld, hxs, hV⟩ := bld_of hR hB hg hp hx
    simp [concL, conc, concA, hB, h0] at hA
    subst hA
    have hxl := concL_len hxs
    refine (bws_any w B.blk V xs s hbld (by omega)).mono fun e w' ⟨he, hw⟩ => ?_
    obtain ⟨v', hb', hbld', hmv⟩ := hw.out
    have hyl : (xs ++ Lib.strCells s).length = l.length + s.size := by rw [List.length_append, Lib.strCells_length, hxl]
    obtain ⟨hr1, ⟨_, hr0⟩ | ⟨g', cap, cur, rfl, _, hcur, hnc, hcm, hcs, htk⟩⟩ := hbld'.row
    · omega
    rw [hyl] at hnc htk hb' hmv hbld'
    rw [Nat.mul_one] at htk hcs
    have hn : φ.at_ H.next = none := by
      cases hb : φ.at_ H.next with
      | none => rfl
      | some b => exact absurd (hR.dom _ _ hb).1 (Nat.lt_irrefl _)
    have hle := Phi.le_put (B := ⟨g', 0, cap - (l.length + s.size)⟩) hn
    have hVo : ∀ g, V.ownBlock = some g → ∃ g0 G, og = some g0 ∧ φ.at_ g0 = some G ∧ G.blk = g := fun g hgo => by
      rcases hV with ⟨rfl, _⟩ | ⟨g0, G, cs, e1, e2, e3, e4, e5, rfl, _⟩
      · simp [Value.ownBlock] at hgo
      · simp only [Value.ownBlock, Option.some.injEq] at hgo; exact ⟨g0, G, e1, e2, hgo⟩
    have hcap2 : (if BIG + (l.length + s.size) < BIG then BIG + (l.length + s.size) else l.length + s.size + (cap - (l.length + s.size))) = cap := by
      rw [if_neg (by omega)]; omega
    have hrel := wrote_rel (w' := w') (og := og) hR hB hg (fun g eg => by
        rcases hV with ⟨_, _, e⟩ | ⟨g0, G, cs, e1, e2, e3, e4, e5, _⟩
        · rw [e] at eg; cases eg
        · rw [e1] at eg; cases eg; exact ⟨e5, G, _, _, _, e2, e4⟩) rfl rfl hk hs ha (g' := g') (e := cap - (l.length + s.size)) (lt_of_get hcur)
      (by rcases hmv.own g' rfl with e | e
          · exact .inl (hVo g' e)
          · exact .inr e)
      (fun e => hbld'.ne (by simp [Value.ownBlock, e])) hmv.os hmv.tape hmv.output hmv.size
      (fun k hk2 hkb hkg => hmv.block k hk2 hkb (fun e => by obtain ⟨g0, G, e1, e2, e3⟩ := hVo k e; exact hkg g0 G e1 e2 e3))
      hb' hcur
      ⟨h0, fun _ => hexc, [.pointer (some ⟨B.blk, 0, none⟩), .slice (some ⟨g', 0, none⟩) (l.length + s.size) cap], _, rfl, by
        have hr : r ≠ H.next := by have := (hR.dom r B hB).1; omega
        have e1 : (φ.put H.next ⟨g', 0, cap - (l.length + s.size)⟩).at_ r = some B := by rw [Phi.put_ne hr]; exact hB
        have e2 : (φ.put H.next ⟨g', 0, cap - (l.length + s.size)⟩).at_ H.next = some ⟨g', 0, cap - (l.length + s.size)⟩ := Phi.put_at _ _ _
        simp only [concL, conc, concA, e1, e2, h0]
        simp [hcap2], by simp [hexc], rfl, fun h => by cases h⟩
      ⟨rfl, (fun h => by cases h), xs ++ Lib.strCells s, cur, rfl, concL_append (concL_le hle _ _ hxs) (concL_plain (strCells_plain s)), by rw [hcs, List.length_append, Lib.strCells_length]; show cap = l.length + s.size + (cap - (l.length + s.size)); omega, by rw [List.length_append, Lib.strCells_length]; exact htk, fun _ => by omega⟩
    exact ⟨_, _, he, by simp [conc, concL], hrel.1, hrel.2⟩
theorem st_ok (hR : Rel φ H w) {v : Value} {H' : Heap} (h : stD H r = some (v, H')) : Gives Tryz.prog φ H w 45 [.pointer (some ⟨r, 0, none⟩)] v H' := by
  obtain ⟨p, x, l, og, hg, hp, hx, hc⟩ := stD_some h
  intro A hA
  cases hB : φ.at_ r with
  | none => simp [concL, conc, concA, hB] at hA
  | some B =>
    obtain ⟨h0, hexc, V, xs, hbld, hxs, hV⟩ := bld_of hR hB hg hp hx
    simp [concL, conc, concA, hB, h0] at hA
    subst hA
    obtain ⟨q, hq, hbk⟩ := hbld.ptr
    rcases hc with ⟨rfl, rfl, rfl⟩ | ⟨g, k, rfl, rfl, hk0, rfl, hk⟩
    · rcases hV with ⟨rfl, _, _⟩ | ⟨g0, G, cs, e1, _⟩
      · refine (string_nil Tryz.lays169 Tryz.Builder_Extra_169 B.blk (.pointer q) w hbk).mono fun e w' ⟨he, hw⟩ => ?_
        subst hw
        exact ⟨_, φ, he, rfl, hR.heap rfl, Step.toDrew⟩
      · cases e1
    · rcases hV with ⟨_, _, e⟩ | ⟨g0, G, cs, e1, e2, e3, e4, e5, rfl, hcs, hsz, hmx, htk⟩
      · cases e
      · obtain rfl := Option.some.inj e1
        have hxl := concL_len hxs
        have hkl : (Lib.byteCells k).length = k.length := Lib.byteCells_length k
        have hpl : (Lib.byteCells k).all plainS = true := by
          rw [List.all_eq_true]
          intro u hu
          simp only [Lib.byteCells, List.mem_map] at hu
          obtain ⟨b, _, rfl⟩ := hu
          rfl
        rw [concL_plain hpl] at hxs
        cases hxs
        rw [hkl] at hbk hsz htk
        refine (string_row Tryz.lays169 Tryz.Builder_Extra_169 B.blk G.blk (k.length + G.exc) (.pointer q) cs k w hbk hcs (by omega) (by omega) (by omega) (by rw [Nat.mul_one]; exact htk) hk0).mono fun e w' ⟨he, hw⟩ => ?_
        subst hw
        have hother : ∀ b, b ≠ G.blk → (w.drew.freeze ⟨G.blk, 0, none⟩ k.length).heap[b]? = w.heap[b]? := fun b hb => by
          unfold World.freeze
          split
          · rfl
          · show (w.drew.heap.modify G.blk _)[b]? = _
            rw [Array.getElem?_modify, if_neg (fun e => hb e.symm)]
            rfl
        have hsize : (w.drew.freeze ⟨G.blk, 0, none⟩ k.length).heap.size = w.heap.size := by
          unfold World.freeze
          split
          · rfl
          · show (w.drew.heap.modify G.blk _).size = _
            rw [Array.size_modify]; rfl
        have hf : (w.drew.freeze ⟨G.blk, 0, none⟩ k.length).os = w.os ∧ (w.drew.freeze ⟨G.blk, 0, none⟩ k.length).tape = w.tape ∧ (w.drew.freeze ⟨G.blk, 0, none⟩ k.length).output = w.output := by
          unfold World.freeze
          split <;> exact ⟨rfl, rfl, rfl⟩
        have hget : ∀ m o, H'.get m = some o → m ≠ g ∧ H.get m = some o := fun m o ho => by
          rw [Heap.kill_get hk] at ho
          split at ho
          · cases ho
          · next hne => exact ⟨fun e => hne (by rw [e]), ho⟩
        have hne : ∀ m o C, H'.get m = some o → φ.at_ m = some C → C.blk ≠ G.blk := fun m o C ho hC he => by
          obtain ⟨k1, k2⟩ := hget m o ho
          exact k1 (typed_alone hR e4 e2 k2 hC he.symm).symm
        refine ⟨_, φ, he, rfl, ⟨fun m o C ho hC => ?_, fun m C hC => ?_, fun i j o p C D hi hj bi bj he => hR.alias i j o p C D (hget i o hi).2 (hget j p hj).2 bi bj he⟩, ⟨Phi.le_refl φ, fun _ _ h => .inl h, by rw [hsize]; exact Nat.le_refl _, fun b hb hn2 => hother b (fun e => hn2 ⟨g, _, G, e4, e2, e.symm⟩), fun b hb ho => ?_, by rw [Heap.kill_next hk]; exact Nat.le_refl _, hf.2.1, hf.1, hf.2.2⟩⟩
        · obtain ⟨c, k4, k5⟩ := hR.objs m o C (hget m o ho).2 hC
          exact ⟨c, by rw [hother _ (hne m o C ho hC)]; exact k4, k5⟩
        · rw [hsize, Heap.kill_next hk]; exact hR.dom m C hC
        · obtain ⟨id, o, C, k1, k2, k3⟩ := ho
          exact ⟨id, o, C, (hget id o k1).2, k2, k3⟩
end
def byte1 : Value → Option UInt8
  | .string ⟨⟨[c]⟩⟩ => some c
  | _ => none
def ixA : List Value → Option Value
  | [.string s, y] => match byte1 y with
    | some c => some (.int .i64 (Lib.indexByte s.data.toList c))
    | none => none
  | _ => none
def ctA : List Value → Option Value
  | [.string s, y] => match byte1 y with
    | some c => some (.int .i64 (Lib.countByte s.data.toList c))
    | none => none
  | _ => none
theorem byte1_some {y : Value} {c : UInt8} (h : byte1 y = some c) : y = .string ⟨#[c]⟩ := by
  unfold byte1 at h
  split at h
  · cases h; rfl
  · cases h
theorem ixA_some {args : List Value} {v : Value} (h : ixA args = some v) : ∃ s c, args = [.string s, .string ⟨#[c]⟩] ∧ v = .int .i64 (Lib.indexByte s.data.toList c) := by
  unfold ixA at h
  split at h
  · split at h
    · next hb => cases h; exact ⟨_, _, by rw [byte1_some hb], rfl⟩
    · cases h
  · cases h
theorem ctA_some {args : List Value} {v : Value} (h : ctA args = some v) : ∃ s c, args = [.string s, .string ⟨#[c]⟩] ∧ v = .int .i64 (Lib.countByte s.data.toList c) := by
  unfold ctA at h
  split at h
  · split at h
    · next hb => cases h; exact ⟨_, _, by rw [byte1_some hb], rfl⟩
    · cases h
  · cases h
def tabW (T : Tab) (g : Nat) (s : List Value → Heap → Option (Value × Heap)) : Tab := ⟨T.fn, fun f args H => @Bool.rec (fun _ => Option (Value × Heap)) (T.sm f args H) (s args H) (Nat.beq f g)⟩
theorem tabW_ok {T : Tab} {g : Nat} {s : List Value → Heap → Option (Value × Heap)} (hT : TabOk Tryz.prog T) (hs : ∀ args H v H', s args H = some (v, H') → ∀ φ w, Rel φ H w → Gives Tryz.prog φ H w g args v H')
    (hf : ∃ F, Tryz.prog.funcs[g]? = some F ∧ (F.name == "runtime.NumGoroutine") = false ∧ F.body.isSome = true) : TabOk Tryz.prog (tabW T g s) := by
  refine ⟨hT.fns, fun f args H v H' h => ?_⟩
  have h : (@Bool.rec (fun _ => Option (Value × Heap)) (T.sm f args H) (s args H) (Nat.beq f g)) = some (v, H') := h
  cases hb : Nat.beq f g with
  | false => rw [hb] at h; exact hT.sms f args H v H' h
  | true =>
    rw [hb] at h
    have h2 : s args H = some (v, H') := h
    obtain rfl := Nat.eq_of_beq_eq_true hb
    exact ⟨hs args H v H' h2, hf⟩
theorem wrA_some {args : List Value} {H H' : Heap} {v : Value} (h : wrA args H = some (v, H')) : ∃ r s, args = [.pointer (some ⟨r, 0, none⟩), .string s] ∧ wrD H r s = some (v, H') := by
  unfold wrA at h
  split at h
  · exact ⟨_, _, rfl, h⟩
  · cases h
theorem stA_some {args : List Value} {H H' : Heap} {v : Value} (h : stA args H = some (v, H')) : ∃ r, args = [.pointer (some ⟨r, 0, none⟩)] ∧ stD H r = some (v, H') := by
  unfold stA at h
  split at h
  · exact ⟨_, rfl, h⟩
  · cases h
def keepA (s : List Value → Option Value) : List Value → Heap → Option (Value × Heap) := fun args H => @Option.rec Value (fun _ => Option (Value × Heap)) none (fun v => some (v, H)) (s args)
theorem keepA_some {s : List Value → Option Value} {args : List Value} {H H' : Heap} {v : Value} (h : keepA s args H = some (v, H')) : s args = some v ∧ H' = H := by
  unfold keepA at h
  cases hq : s args with
  | none => rw [hq] at h; cases h
  | some u => rw [hq] at h; cases h; exact ⟨rfl, rfl⟩
theorem gives_same {f : FuncId} {args : List Value} {H : Heap} {v V : Value} {φ : Phi} {w : World} (hR : Rel φ H w) (hv : conc φ v = some V) (hc : ∀ A, concL φ args = some A → Calls Tryz.prog f A.toArray w fun e w' => e = .returned V ∧ w' = w) : Gives Tryz.prog φ H w f args v H := fun A hA =>
  (hc A hA).mono fun e w' ⟨he, hw⟩ => by subst hw; exact ⟨V, φ, he, hv, hR, Step.refl _ _ _⟩
def fnB : Tab := tabW (tabW (tabW (tabW ⟨fnT, smK smSum⟩ 79 (keepA ixA)) 78 (keepA ctA)) 44 wrA) 45 stA
theorem fnB_ok : TabOk Tryz.prog fnB := by
  refine tabW_ok (tabW_ok (tabW_ok (tabW_ok (sum_tab fnT_ok) ?_ ⟨Tryz.f79, Tryz.func79, by kernel_rfl, by kernel_rfl⟩) ?_ ⟨Tryz.f78, Tryz.func78, by kernel_rfl, by kernel_rfl⟩) ?_ ⟨Tryz.f44, Tryz.func44, by kernel_rfl, by kernel_rfl⟩) ?_ ⟨Tryz.f45, Tryz.func45, by kernel_rfl, by kernel_rfl⟩
  · intro args H v H' h φ w hR
    obtain ⟨h1, rfl⟩ := keepA_some h
    obtain ⟨s, c, rfl, rfl⟩ := ixA_some h1
    refine gives_same hR rfl fun A hA => ?_
    simp only [concL, conc, Option.some.injEq] at hA
    subst hA
    exact Tryz.strings_Index_one s c w
  · intro args H v H' h φ w hR
    obtain ⟨h1, rfl⟩ := keepA_some h
    obtain ⟨s, c, rfl, rfl⟩ := ctA_some h1
    refine gives_same hR rfl fun A hA => ?_
    simp only [concL, conc, Option.some.injEq] at hA
    subst hA
    exact Tryz.strings_Count_one s c w
  · intro args H v H' h φ w hR
    obtain ⟨r, s, rfl, h1⟩ := wrA_some h
    exact wr_ok hR h1
  · intro args H v H' h φ w hR
    obtain ⟨r, rfl, h1⟩ := stA_some h
    exact st_ok hR h1
end Ev
end
end Go.Proofs.YtifoekadjnlhcaaGreatDoor
